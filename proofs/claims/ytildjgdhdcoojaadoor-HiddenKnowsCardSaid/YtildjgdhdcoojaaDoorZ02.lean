/- Texts of the claim: SymDef. -/
import Derived.Test.YtildjgdhdcoojaaDoorZ01
set_option linter.unusedVariables false
set_option linter.unusedSimpArgs false
namespace Go.Sym
open Go Go.a9
noncomputable section
inductive V where
 | int (n : Int)
 | bool (b : Bool)
 | str (s : ByteArray)
 | nil
 | list (l : List V)
 deriving Inhabited
def V.ab : V -> Int
 | .int n => n
 | _ => 0
def V.eI : V -> Bool
 | .bool b => b
 | _ => false
def V.Er : V -> ByteArray
 | .str s => s
 | _ => ByteArray.empty
def V.bx : V -> List V
 | .list l => l
 | _ => []
def V.isNil : V -> Bool
 | .nil => true
 | _ => false
def V.len (x : V) : Int := x.bx.length
def V.get (x : V) (i : Int) : V := (x.bx[i.toNat]?).getD .nil
def V.snoc (x y : V) : V := .list (x.bx ++ [y])
def V.app (x y : V) : V :=
 match y.bx with
 | [] => x
 | l => .list (x.bx ++ l)
def V.set (x : V) (i : Int) (y : V) : V := .list (x.bx.set i.toNat y)
def V.sub (x : V) (lo hi : Int) : V :=
 match x with
 | .nil => .nil
 | x => .list ((x.bx.take hi.toNat).drop lo.toNat)
def V.rep (n : Int) (x : V) : V := .list (List.replicate n.toNat x)
def V.over (x y : V) : V := .list ((y.bx.take x.bx.length) ++ x.bx.drop y.bx.length)
inductive E where
 | iv (n : Nat)
 | il (z : Int)
 | add (a b : E)
 | sub (a b : E)
 | mul (a b : E)
 | quo (a b : E)
 | rem (a b : E)
 | wrap (k : IntKind) (a : E)
 | shl (k : IntKind) (a b : E)
 | shr (k : IntKind) (a b : E)
 | bits (op : BinOp) (k : IntKind) (a b : E)
 | len (x : E)
 | ab (x : E)
 | min (a b : E)
 | max (a b : E)
 | ite (c a b : E)
 | bv (n : Nat)
 | bl (b : Bool)
 | lt (a b : E)
 | le (a b : E)
 | eq (a b : E)
 | not (a : E)
 | and (a b : E)
 | or (a b : E)
 | beq (a b : E)
 | seq (a b : E)
 | eI (x : E)
 | isNil (x : E)
 | vv (n : Nat)
 | nil
 | emp
 | snoc (x y : E)
 | app (x y : E)
 | get (x i : E)
 | set (x i y : E)
 | cut (x i j : E)
 | rep (n x : E)
 | over (x y : E)
 | aN (a : E)
 | gN (a : E)
 | str (s : ByteArray)
 deriving DecidableEq, Inhabited
structure Env where
 i : List Int
 b : List Bool
 v : List V
def Env.push (ρ : Env) (x : V) : Env := { ρ with v := ρ.v ++ [x] }
def Ef (op : BinOp) (k : IntKind) (a b : Int) : Int :=
 match Op.intBits op k a b with
 | .pure (.int _ n) => n
 | _ => 0
def Cu (a b : Int) : Bool := decide (a < b)
def Cv (a b : Int) : Bool := decide (a <= b)
def AS (a b : Int) : Bool := decide (a = b)
def DX (a b : V) : Bool := decide (a.Er = b.Er)
def vz (a b : Int) : Int := if b < a then b else a
def vA (a b : Int) : Int := if a < b then b else a
mutual
def E.i (ρ : Env) : E -> Int
 | .iv n => ρ.i.getD n 0
 | .il z => z
 | .add a b => a.i ρ + b.i ρ
 | .sub a b => a.i ρ - b.i ρ
 | .mul a b => a.i ρ * b.i ρ
 | .quo a b => (a.i ρ).tdiv (b.i ρ)
 | .rem a b => (a.i ρ).tmod (b.i ρ)
 | .wrap k a => k.wrap (a.i ρ)
 | .shl k a b => a.i ρ * 2 ^ (Nat.min (b.i ρ).toNat k.bits)
 | .shr k a b => (a.i ρ).fdiv (2 ^ (Nat.min (b.i ρ).toNat k.bits))
 | .bits op k a b => Ef op k (a.i ρ) (b.i ρ)
 | .len x => (x.v ρ).len
 | .ab x => (x.v ρ).ab
 | .min a b => vz (a.i ρ) (b.i ρ)
 | .max a b => vA (a.i ρ) (b.i ρ)
 | .ite c a b => cond (c.b ρ) (a.i ρ) (b.i ρ)
 | _ => 0
def E.b (ρ : Env) : E -> Bool
 | .bv n => ρ.b.getD n false
 | .bl b => b
 | .lt a b => Cu (a.i ρ) (b.i ρ)
 | .le a b => Cv (a.i ρ) (b.i ρ)
 | .eq a b => AS (a.i ρ) (b.i ρ)
 | .not a => !a.b ρ
 | .and a b => a.b ρ && b.b ρ
 | .or a b => a.b ρ || b.b ρ
 | .beq a b => a.b ρ == b.b ρ
 | .seq a b => DX (a.v ρ) (b.v ρ)
 | .eI x => (x.v ρ).eI
 | .isNil x => (x.v ρ).isNil
 | .ite c a b => cond (c.b ρ) (a.b ρ) (b.b ρ)
 | _ => false
def E.v (ρ : Env) : E -> V
 | .vv n => ρ.v.getD n .nil
 | .nil => .nil
 | .emp => .list []
 | .snoc x y => (x.v ρ).snoc (y.v ρ)
 | .app x y => (x.v ρ).app (y.v ρ)
 | .get x i => (x.v ρ).get (i.i ρ)
 | .set x i y => (x.v ρ).set (i.i ρ) (y.v ρ)
 | .cut x i j => (x.v ρ).sub (i.i ρ) (j.i ρ)
 | .rep n x => V.rep (n.i ρ) (x.v ρ)
 | .over x y => (x.v ρ).over (y.v ρ)
 | .aN a => .int (a.i ρ)
 | .gN a => .bool (a.b ρ)
 | .str s => .str s
 | _ => .nil
end
def E.add' (a b : E) : E :=
 match a, b with
 | .il x, .il y => .il (x + y)
 | a, .il 0 => a
 | a, b => .add a b
def E.sub' (a b : E) : E :=
 match a, b with
 | .il x, .il y => .il (x - y)
 | a, b => .sub a b
def E.mul' (a b : E) : E :=
 match a, b with
 | .il x, .il y => .il (x * y)
 | a, b => .mul a b
def E.lt' (a b : E) : E :=
 match a, b with
 | .il x, .il y => .bl (decide (x < y))
 | a, b => .lt a b
def E.le' (a b : E) : E :=
 match a, b with
 | .il x, .il y => .bl (decide (x <= y))
 | a, b => .le a b
def E.eq' (a b : E) : E :=
 match a, b with
 | .il x, .il y => .bl (decide (x = y))
 | a, b => .eq a b
def E.not' : E -> E
 | .bl b => .bl !b
 | a => .not a
def E.and' (a b : E) : E :=
 match a with
 | .bl true => b
 | .bl false => .bl false
 | a => match b with
  | .bl true => a
  | b => .and a b
def E.len' : E -> E
 | .nil => .il 0
 | .emp => .il 0
 | .snoc x y => (E.len' x).add' (.il 1)
 | .set x i y => E.len' x
 | x => .len x
def E.toI' : E -> E
 | .aN a => a
 | x => .ab x
def E.toB' : E -> E
 | .gN a => a
 | x => .eI x
def E.back : E -> Nat -> Option E
 | .snoc x y, 0 => some y
 | .snoc x y, n + 1 => E.back x n
 | _, _ => none
def E.size : E -> Option Nat
 | .nil => some 0
 | .emp => some 0
 | .snoc x y => (E.size x).map (· + 1)
 | _ => none
def E.get' (x i : E) : E :=
 match i with
 | .il (.ofNat n) => match E.size x with
  | some m => cond (Nat.blt n m) ((E.back x (m - 1 - n)).getD (.get x i)) (.get x i)
  | none => .get x i
 | i => .get x i
def lo (k : IntKind) : Int := if k.signed then -(2 ^ (k.bits - 1) : Int) else 0
def hi (k : IntKind) : Int := if k.signed then 2 ^ (k.bits - 1) - 1 else 2 ^ k.bits - 1
def fit (w : Bool) (k : IntKind) (e : E) : E × List E :=
 match e with
 | .il z => (.il (k.wrap z), [])
 | e => cond w (.wrap k e, []) (e, [.and (.le (.il (lo k)) e) (.le e (.il (hi k)))])
def ask (c : E) : List E :=
 match c with
 | .bl true => []
 | c => [c]
def mC (i n : E) : List E := ask ((E.le' (.il 0) i).and' (E.lt' i n))
inductive PA where
 | nil
 | cell (n j : Nat)
 | el (p : PA) (i : E) (sz off : Nat)
 | D8 (b ib : Nat) (i : E) (sz off : Nat)
 | sub (p : PA) (i j : E) (sz : Nat)
 deriving DecidableEq, Inhabited
inductive SV where
 | bad
 | bool (e : E)
 | int (k : IntKind) (e : E)
 | str (e : E)
 | fe
 | addr (b off : Nat)
 | bI (b : Nat) (i : E) (off : Nat)
 | ld (t : TypeId) (e : E) (p : PA) (i : E) (sz off : Nat)
 | aV
 | view (b : Nat)
 | pure (t : TypeId) (e : E) (p : PA)
 | fK
 | fB
 | func (f : FuncId) (first captured : List SV)
 | aF (l : Nat)
 | gp (cs : List SV)
 | cW
 | iface (t : TypeId) (v : SV)
 | agg (cs : List SV)
 | tuple (vs : List SV)
 deriving Inhabited
def SV.beq : Nat -> SV -> SV -> Bool
 | 0, _, _ => false
 | f + 1, x, y => match x, y with
  | .bool a, .bool b => decide (a = b)
  | .int j a, .int k b => decide (j = k) && decide (a = b)
  | .str a, .str b => decide (a = b)
  | .fe, .fe => true
  | .addr a i, .addr b j => Nat.beq a b && Nat.beq i j
  | .bI a i m, .bI b j n => Nat.beq a b && decide (i = j) && Nat.beq m n
  | .aV, .aV => true
  | .view a, .view b => Nat.beq a b
  | .pure t e p, .pure t' e' p' => Nat.beq t t' && decide (e = e') && decide (p = p')
  | .fK, .fK => true
  | .fB, .fB => true
  | .func a x u, .func b y v => Nat.beq a b && cO (SV.beq f) x y && cO (SV.beq f) u v
  | .aF a, .aF b => Nat.beq a b
  | .cW, .cW => true
  | .iface t a, .iface u b => Nat.beq t u && SV.beq f a b
  | .agg a, .agg b => cO (SV.beq f) a b
  | .tuple a, .tuple b => cO (SV.beq f) a b
  | _, _ => false
def SV.one : SV -> Bool
 | .agg _ | .tuple _ | .bad => false
 | _ => true
def SV.cells : SV -> List SV
 | .agg cs => cs
 | v => [v]
def Aq : Value -> SV
 | .bool b => .bool (.bl b)
 | .int k n => .int k (.il n)
 | .string s => .str (.str s)
 | .pointer none => .fe
 | .slice none 0 0 => .aV
 | .map none => .fK
 | .nilFunc => .fB
 | .nilIface => .cW
 | _ => .bad
def Dw : Value -> SV
 | .agg cs => .agg (cs.toList.map Aq)
 | .tuple vs => .tuple (vs.toList.map Aq)
 | v => Aq v
structure oR where
 yj : Em
 args : List SV
structure mg where
 state : LoopState
 pending : Option Code
 fn : FuncId
 nt : Nat
 tm : Tr SV
 params : Array Tmp
 assign : Code
 body : Code
 defers : Nat
inductive b5 where
 | cells (cs : List SV)
 | arr (t : TypeId) (e : E) (ib : Nat)
 | dK (t : TypeId) (e : E) (n : Nat)
 | tree (t : TypeId) (e : E) (hole : Option (E × Nat × TypeId × Nat))
 | dW (t et : TypeId) (e i : E) (c : Nat)
 | dh (t et : TypeId) (e i : E) (c : Nat) (i2 : E) (c2 : Nat)
 | loop (l : mg)
 | deferred (ds : Option (List oR))
structure ae where
 next : Nat
 iz : Nat
 nv : Nat
 t : Tr b5
def ae.get (h : ae) (b : Nat) : Option b5 := h.t.get b
def ae.set (h : ae) (b : Nat) (o : b5) : ae := { h with t := h.t.set b o }
def ae.kill (h : ae) (b : Nat) : ae := { h with t := h.t.erase b }
def ae.new (h : ae) (o : b5) : ae := { h with next := h.next + 1, t := h.t.set h.next o }
inductive Dn where
 | run
 | returning
structure aT where
 fn : FuncId
 nt : Nat
 tm : Tr SV
 todo : List bu
 defers : List oR
 mode : Dn
 deferred : Bool
 roundOf : Option Nat
structure au where
 fr : aT
 callers : List aT
 h : ae
def mM (tm : Tr SV) (t : Nat) : SV := match tm.get t with | some v => v | none => .bad
def DZ : AV -> SV
 | .bool b => .bool (.bl b)
 | .int k n => .int k (.il n)
 | .func f [] [] => .func f [] []
 | _ => .bad
def Ew (g : Nat) : SV := match CR.lookup g with
 | some cs => .gp (cs.map DZ)
 | none => .bad
def aU (tm : Tr SV) : Operand -> SV
 | .tmp t => mM tm t
 | .const v => Dw v
 | .global g => Ew g
 | .func f => .func f [] []
def zH (nt : Nat) (tm : Tr SV) : Option Tmp -> SV -> Option (Tr SV)
 | none, _ => some tm
 | some d, v => cond (Nat.blt d nt) (some (tm.set d v)) none
def cellsOf (P : Program) (way : Nat -> PA) : Nat -> TypeId -> E -> Nat -> Option (List SV)
 | 0, _, _, _ => none
 | d + 1, t, e, off => match P.underlying t with
  | some (.int k) => some [.int k e.toI']
  | some .bool => some [.bool e.toB']
  | some .string => some [.str e]
  | some (.slice et) => some [.pure et e (way off)]
  | some (.struct fields) => (fields.toList.zipIdx.foldr (fun (f, j) r => match cellsOf P way d f.type (e.get' (.il (Int.ofNat j))) (off + f.offset), r with
    | some x, some y => some (x ++ y)
    | _, _ => none) (some []))
  | some (.array n et) => match aA P et with
   | some s => ((List.range n).foldr (fun (j : Nat) r => match cellsOf P way d et (e.get' (.il (Int.ofNat j))) (off + j * s), r with
    | some x, some y => some (x ++ y)
    | _, _ => none) (some []))
   | none => none
  | _ => none
def fL (P : Program) : Nat -> TypeId -> Bool
 | 0, _ => false
 | d + 1, t => match P.underlying t with
  | some (.slice e) => fL P d e
  | some (.struct fields) => fields.toList.all fun f => fL P d f.type
  | some (.array _ e) => fL P d e
  | _ => true
def tight (P : Program) : List Field -> Nat -> Option Nat
 | [], pos => some pos
 | f :: fs, pos => match aA P f.type with
  | some s => cond (Nat.beq f.offset pos) (tight P fs (pos + s)) none
  | none => none
def bA (P : Program) : Nat -> TypeId -> Bool
 | 0, _ => true
 | d + 1, t => match P.underlying t with
  | some (.int _) | some .bool | some .string => false
  | some (.struct fields) => fields.toList.any fun f => bA P d f.type
  | some (.array _ e) => bA P d e
  | _ => true
def valOf (P : Program) (h : ae) : Nat -> TypeId -> List SV -> Option E
 | 0, _, _ => none
 | d + 1, t, cs => match aA P t with
  | none => none
  | some n => match P.underlying t with
   | some (.int j) => match cs with
    | .int k e :: _ => cond (Nat.beq n 1 && decide (j = k)) (some (.aN e)) none
    | _ => none
   | some .bool => match cs with
    | .bool e :: _ => cond (Nat.beq n 1) (some (.gN e)) none
    | _ => none
   | some .string => match cs with
    | .str e :: _ => cond (Nat.beq n 1) (some e) none
    | _ => none
   | some (.slice et) => cond (Nat.beq n 1 && fL P d et) (match aA P et with
    | some (_ + 1) => (match cs with
     | .aV :: _ => some .nil
     | .pure t' e _ :: _ => cond (Nat.beq t' et) (some e) none
     | .view b :: _ => match h.get b with
      | some (.dK t' e _) => cond (Nat.beq t' et) (some e) none
      | _ => none
     | _ => none)
    | _ => none) none
   | some (.struct fields) => cond (decide (tight P fields.toList 0 = some n) && Nat.ble n cs.length) (fields.toList.foldl (fun r f => match r, valOf P h d f.type (cs.drop f.offset) with
     | some x, some y => some (.snoc x y)
     | _, _ => none) (some .emp)) none
   | some (.array m et) => match aA P et with
    | some s => cond (Nat.beq n (m * s) && Nat.ble n cs.length) ((List.range m).foldl (fun r j => match r, valOf P h d et (cs.drop (j * s)) with
     | some x, some y => some (.snoc x y)
     | _, _ => none) (some .emp)) none
    | none => none
   | _ => none
def deep : Nat := 12
end
end Go.Sym
