/- Texts of the claim: SymOps. -/
import Derived.Test.YtildjgdhdcoojaaDoorZ02
set_option linter.unusedVariables false
set_option linter.unusedSimpArgs false
namespace Go.Sym
open Go Go.a9
noncomputable section
abbrev DM := List (Nat × Nat)
def rJ (hJ : DM) (f : FuncId) (d : Option Tmp) : Bool :=
 match d with
 | some d => hJ.any fun x => Nat.beq x.1 f && Nat.beq x.2 d
 | none => false
def tU : Nat -> List SV -> Option (List SV)
 | 0, _ => some []
 | n + 1, x :: xs => (tU n xs).map (x :: ·)
 | _ + 1, [] => none
def eu (P : Program) (t : TypeId) (cs : List SV) : Option SV :=
 match bB P t with
 | some true => match aA P t with
  | some n => (tU n cs).map .agg
  | none => none
 | some false => match cs with
  | c :: _ => some c
  | [] => none
 | none => none
def elemOf (P : Program) (h : ae) (b : Nat) (i : E) : Option (List SV × E) :=
 match h.get b with
 | some (.arr et e ib) => match aA P et with
  | some sz => (cellsOf P (fun o => .D8 b ib i sz o) deep et (e.get' i) 0).map fun cs => (cs, e)
  | none => none
 | some (.dK et e n) => match aA P et with
  | some sz => (cellsOf P (fun o => .el (.cell n 0) i sz o) deep et (e.get' i) 0).map fun cs => (cs, e)
  | none => none
 | _ => none
def fieldAt : List Field -> Nat -> Nat -> Option (Nat × Field)
 | [], _, _ => none
 | f :: fs, off, j => cond (Nat.beq f.offset off) (some (j, f)) (fieldAt fs off (j + 1))
def partAt (P : Program) (et : TypeId) (off : Nat) (t : TypeId) : Option (Option Nat) :=
 cond (Nat.beq off 0 && Nat.beq t et) (some none) (match P.underlying et with
  | some (.struct fields) => match fieldAt fields.toList off 0 with
   | some (j, f) => cond (Nat.beq f.type t) (some (some j)) none
   | none => none
  | _ => none)
def ez (e : E) : Option Nat -> E
 | none => e
 | some j => e.get' (.il (Int.ofNat j))
def dF (e x : E) : Option Nat -> E
 | none => x
 | some j => .set e (.il (Int.ofNat j)) x
def BV (v : SV) : Bool := v.cells.all fun
 | .bool _ | .int _ _ | .str _ => true
 | _ => false
def jW (P : Program) (t : TypeId) : Bool :=
 match P.underlying t with
 | some (.slice _) => true
 | _ => false
def rF : Option Nat -> Option Nat -> Bool
 | some j, some k => !Nat.beq j k
 | _, _ => false
def rQ (P : Program) (et : TypeId) (j : Option Nat) : Option (E × Nat × TypeId × Nat) -> Bool
 | none => true
 | some (_, off, st, _) => match partAt P et off st with
  | some k => rF j k
  | none => false
def rP (P : Program) (h : ae) (t : TypeId) (b : Nat) (i : E) (off : Nat) : Option (SV × List E) :=
 match h.get b with
 | some (.tree et e hole) => match partAt P et off t with
  | some j => cond (bA P deep t)
    (match hole with
    | some (i', off', st, c) => cond (decide (i = i') && Nat.beq off off' && Nat.beq st t && jW P t) (some (.view c, mC i e.len')) none
    | none => none)
    (cond (rQ P et j hole) (match cellsOf P (fun o => .cell 0 o) deep t (ez (e.get' i) j) 0 with
    | some cs => match eu P t cs with
     | some v => cond (BV v) (some (v, mC i e.len')) none
     | none => none
    | none => none) none)
  | none => none
 | some (.dW et _ e i' c) => cond (decide (i = i') && Nat.beq off 0 && Nat.beq et t) (some (.view c, mC i e.len')) none
 | some (.dh et _ e i1 c1 i2 c2) => cond (Nat.beq off 0 && Nat.beq et t) (cond (decide (i = i1)) (some (.view c1, mC i e.len')) (cond (decide (i = i2)) (some (.view c2, mC i e.len')) none)) none
 | _ => none
def zK (P : Program) (h : ae) (t : TypeId) (a : SV) : Option (SV × List E) :=
 match a with
 | .addr b off => match h.get b with
  | some (.cells cs) => (eu P t (cs.drop off)).map fun v => (v, [])
  | _ => none
 | .bI b i off => match elemOf P h b i with
  | some (cs, e) => cond (Nat.blt off cs.length) ((eu P t (cs.drop off)).map fun v => (v, mC i e.len')) none
  | none => rP P h t b i off
 | .ld t' e p i sz off => match cellsOf P (fun o => .el p i sz o) deep t' e off with
  | some cs => (eu P t cs).map fun v => (v, [])
  | none => none
 | .gp cs => (eu P t cs).map fun v => (v, [])
 | _ => none
def nj (P : Program) (s : TypeId) (a : SV) (f : Nat) : Option SV :=
 match jr P s f with
 | some fd => match aA P fd.type with
  | some (_ + 1) => match a with
   | .addr b off => some (.addr b (off + fd.offset))
   | .bI b i off => some (.bI b i (off + fd.offset))
   | .ld t e p i sz off => match jr P t f with
    | some fd' => cond (Nat.beq fd'.type fd.type && Nat.beq fd'.offset fd.offset) (some (.ld fd.type (e.get' (.il (Int.ofNat f))) p i sz (off + fd.offset))) none
    | none => none
   | _ => none
  | _ => none
 | none => none
def pq (h : ae) : SV -> Option (TypeId × E × PA)
 | .pure t e p => some (t, e, p)
 | .view b => match h.get b with
  | some (.dK t e n) => some (t, e, .cell n 0)
  | _ => none
 | _ => none
def kq (h : ae) : SV -> Option (TypeId × E)
 | .pure t e p => some (t, e)
 | .view b => match h.get b with
  | some (.dK t e n) => some (t, e)
  | some (.arr t e _) => some (t, e)
  | _ => none
 | _ => none
def lenOf (h : ae) (x : SV) : Option E :=
 match x with
 | .view b => match h.get b with
  | some (.tree t e _) => some e
  | some (.dW _ _ e _ _) => some e
  | some (.dh _ _ e _ _ _ _) => some e
  | _ => (kq h (.view b)).map (·.2)
 | x => (kq h x).map (·.2)
def CL : E -> Option Nat
 | .il (.ofNat n) => some n
 | _ => none
def nh (P : Program) (h : ae) (t : TypeId) (x ix : SV) : Option (SV × List E) :=
 match ix with
 | .int _ i => match P.underlying t with
  | some (.array len elem) => match CL i, aA P elem with
   | some n, some s => cond (Nat.blt n len) (match x with
    | .addr b off => some (.addr b (off + n * s), [])
    | .bI b j off => some (.bI b j (off + n * s), [])
    | .gp cs => some (.gp (cs.drop (n * s)), [])
    | _ => none) none
   | _, _ => none
  | some (.slice elem) => match aA P elem with
   | some s => match x with
    | .view b => match h.get b with
     | some (.arr et e _) => cond (Nat.beq et elem) (some (.bI b i 0, mC i e.len')) none
     | some (.dK et e _) => cond (Nat.beq et elem) (some (.bI b i 0, mC i e.len')) none
     | some (.tree et e _) => cond (Nat.beq et elem) (some (.bI b i 0, mC i e.len')) none
     | some (.dW et _ e _ _) => cond (Nat.beq et elem) (some (.bI b i 0, mC i e.len')) none
     | some (.dh et _ e _ _ _ _) => cond (Nat.beq et elem) (some (.bI b i 0, mC i e.len')) none
     | _ => none
    | .pure et e p => cond (Nat.beq et elem) (some (.ld et (e.get' i) p i s 0, mC i e.len')) none
    | _ => none
   | none => none
  | _ => none
 | _ => none
def yz (P : Program) (s : TypeId) (x : SV) (f : Nat) : Option SV :=
 match x with
 | .agg cs => match jr P s f with
  | some fd => eu P fd.type (cs.drop fd.offset)
  | none => none
 | _ => none
def yu (P : Program) (t : TypeId) (x ix : SV) : Option (SV × List E) :=
 match ix with
 | .int _ i => match P.underlying t with
  | some (.array len elem) => match x with
   | .agg cs => match CL i, aA P elem with
    | some n, some s => cond (Nat.blt n len) ((eu P elem (cs.drop (n * s))).map fun v => (v, [])) none
    | _, _ => none
   | _ => none
  | _ => none
 | _ => none
def CB (tm : Tr SV) : Option Operand -> Option (Option E)
 | none => some none
 | some x => match aU tm x with
  | .int _ e => some (some e)
  | _ => none
def yn (P : Program) (h : ae) (t : TypeId) (x : SV) (lo hi : Option E) : Option (SV × List E) :=
 match P.underlying t with
 | some (.slice elem) => match aA P elem, pq h x with
  | some s, some (et, e, p) =>
   let n := e.len'
   let m := hi.getD n
   let l := lo.getD (.il 0)
   cond (Nat.beq et elem) (some (.pure et (.cut e l m) (.sub p l m s), ask ((E.le' (.il 0) l).and' (E.le' l m)) ++ ask (E.le' m n))) none
  | _, _ => none
 | _ => none
def Dt (P : Program) (h : ae) (t : TypeId) (x : SV) : Option SV :=
 match P.underlying t with
 | some (.array n _) => some (.int .i64 (.il n))
 | some (.slice _) => match x with
  | .aV => some (.int .i64 (.il 0))
  | x => (lenOf h x).map fun r => .int .i64 r.len'
 | _ => none
def vg (w : Bool) (op : BinOp) (k : IntKind) (a b : E) : Option (SV × List E) :=
 match op with
 | .add => some (.int k (fit w k (a.add' b)).1, (fit w k (a.add' b)).2)
 | .sub => some (.int k (fit w k (a.sub' b)).1, (fit w k (a.sub' b)).2)
 | .mul => some (.int k (fit w k (a.mul' b)).1, (fit w k (a.mul' b)).2)
 | .quo => some (.int k (fit w k (.quo a b)).1, ask (E.eq' b (.il 0)).not' ++ (fit w k (.quo a b)).2)
 | .rem => some (.int k (.rem a b), ask (E.eq' b (.il 0)).not')
 | .eql => some (.bool (E.eq' a b), [])
 | .neq => some (.bool (E.eq' a b).not', [])
 | .lss => some (.bool (E.lt' a b), [])
 | .leq => some (.bool (E.le' a b), [])
 | .gtr => some (.bool (E.lt' b a), [])
 | .geq => some (.bool (E.le' b a), [])
 | .and | .or | .xor | .andNot => some (.int k (.bits op k a b), [])
 | _ => none
def uh (P : Program) (h : ae) : Nat -> TypeId -> SV -> SV -> Option E
 | 0, _, _, _ => none
 | d + 1, t, x, y => match P.underlying t with
  | some .bool => match x, y with
   | .bool a, .bool b => some (.beq a b)
   | _, _ => none
  | some (.int _) => match x, y with
   | .int j a, .int k b => cond (decide (j = k)) (some (E.eq' a b)) none
   | _, _ => none
  | some .string => match x, y with
   | .str a, .str b => some (.seq a b)
   | _, _ => none
  | some (.pointer _) => match x, y with
   | .fe, .fe => some (.bl true)
   | .fe, .addr _ _ | .addr _ _, .fe => some (.bl false)
   | _, _ => none
  | some (.interface _) => match x, y with
   | .cW, .cW => some (.bl true)
   | .cW, .iface _ _ | .iface _ _, .cW => some (.bl false)
   | _, _ => none
  | some (.struct fields) => match x, y with
   | .agg xs, .agg ys => cond (P.stoodInHeld t) none (fields.toList.foldr (fun f r =>
     cond (decide (f.name = "_")) r (match eu P f.type (xs.drop f.offset), eu P f.type (ys.drop f.offset), r with
      | some a, some b, some r => match uh P h d f.type a b with
       | some c => some (c.and' r)
       | none => none
      | _, _, _ => none)) (some (.bl true)))
   | _, _ => none
  | some (.array len elem) => match x, y with
   | .agg xs, .agg ys => match aA P elem with
    | some n => (List.range len).foldr (fun i r => match eu P elem (xs.drop (i * n)), eu P elem (ys.drop (i * n)), r with
      | some a, some b, some r => match uh P h d elem a b with
       | some c => some (c.and' r)
       | none => none
      | _, _, _ => none) (some (.bl true))
    | none => none
   | _, _ => none
  | some (.slice _) => match x, y with
   | .aV, .aV => some (.bl true)
   | .aV, y => (lenOf h y).map fun r => .isNil r
   | x, .aV => (lenOf h x).map fun r => .isNil r
   | _, _ => none
  | some (.func _ _ _) => match x, y with
   | .fB, .fB => some (.bl true)
   | .fB, .func _ _ _ | .func _ _ _, .fB => some (.bl false)
   | _, _ => none
  | _ => none
def sb (P : Program) (t : TypeId) (x y : Operand) (a b : SV) : Bool :=
 match a, b with
 | .cW, .cW => isConst x || isConst y
 | .agg _, .agg _ => !P.eqGuardType P.depth t
 | _, _ => true
def Dv (P : Program) (h : ae) (w : Bool) (op : BinOp) (t : TypeId) (x y : Operand) (a b : SV) : Option (SV × List E) :=
 match a, b with
 | .int j m, .int k n => match op with
  | .shl => some (.int j (fit w j (.shl j m n)).1, ask (E.le' (.il 0) n) ++ (fit w j (.shl j m n)).2)
  | .shr => some (.int j (.shr j m n), ask (E.le' (.il 0) n))
  | _ => cond (decide (j = k)) (vg w op j m n) none
 | .bad, _ | _, .bad => none
 | .str _, .str _ => none
 | _, _ => match op with
  | .eql => cond (sb P t x y a b) ((uh P h deep t a b).map fun e => (.bool e, [])) none
  | .neq => cond (sb P t x y a b) ((uh P h deep t a b).map fun e => (.bool e.not', [])) none
  | _ => none
def Eu (w : Bool) (op : UnOp) (x : SV) : Option (SV × List E) :=
 match op, x with
 | .neg, .int k n => some (.int k (fit w k (E.sub' (.il 0) n)).1, (fit w k (E.sub' (.il 0) n)).2)
 | .not, .bool b => some (.bool b.not', [])
 | _, _ => none
def Bo (P : Program) (w : Bool) (src dst : TypeId) (x : SV) : Option (SV × List E) :=
 match P.underlying src, P.underlying dst with
 | some _, some (.int k) => match x with
  | .int _ n => some (.int k (fit w k n).1, (fit w k n).2)
  | _ => none
 | some _, some .string => match x with
  | .str s => some (.str s, [])
  | _ => none
 | _, _ => none
def jN (P : Program) (t : TypeId) : Option SV :=
 match P.info? t with
 | some i => i.zero.map Dw
 | none => none
def jl (cs : List SV) (off : Nat) (vs : List SV) : List SV := cs.take off ++ vs ++ cs.drop (off + vs.length)
def uf (place : Nat -> Option (Nat × Nat)) (cells : List SV) : List (Nat × SV) -> Option (List SV)
 | [] => some cells
 | (i, v) :: rest => match v with
  | .bad => none
  | _ => match place i with
   | none => none
   | some (off, size) => cond (Nat.beq v.cells.length size && Nat.ble (off + v.cells.length) cells.length)
     (uf place (jl cells off v.cells) rest) none
def yC (P : Program) (t : TypeId) (parts : List (Nat × SV)) : Option SV :=
 match jN P t with
 | some (.agg z) => match P.underlying t with
  | some (.struct fields) => match placesOf P fields.toList with
   | some l => (uf (fun i => l[i]?) z parts).map .agg
   | none => none
  | some (.array _ elem) => match aA P elem with
   | some s => (uf (fun i => some (i * s, s)) z parts).map .agg
   | none => none
  | _ => none
 | _ => none
def Bc (c a b : SV) : Option SV :=
 match c with
 | .bool (.bl true) => some a
 | .bool (.bl false) => some b
 | .bool e => match a, b with
  | .bool x, .bool y => some (.bool (.ite e x y))
  | .int j x, .int k y => cond (decide (j = k)) (some (.int j (.ite e x y))) none
  | _, _ => none
 | _ => none
def kT (P : Program) (x : SV) (asserted : TypeId) (commaOk : Bool) : Option SV :=
 match isIface P asserted with
 | some false => match x with
  | .iface t v => cond (Nat.beq t asserted) (some (cond commaOk (.tuple [v, .bool (.bl true)]) v))
    (cond commaOk ((jN P asserted).map fun z => .tuple [z, .bool (.bl false)]) none)
  | .cW => cond commaOk ((jN P asserted).map fun z => .tuple [z, .bool (.bl false)]) none
  | _ => none
 | _ => none
def Bf (x y : SV) : Option SV :=
 match x, y with
 | .int k a, .int _ b => some (.int k (.min a b))
 | _, _ => none
def Bh (x y : SV) : Option SV :=
 match x, y with
 | .int k a, .int _ b => some (.int k (.max a b))
 | _, _ => none
def xC (f : SV -> SV -> Option SV) : SV -> List SV -> Option SV
 | a, [] => some a
 | a, x :: xs => match f a x with
  | some b => xC f b xs
  | none => none
def plain (o : Option SV) : Option (SV × List E) := o.map fun v => (v, [])
def ve (P : Program) (hJ : DM) (fn : FuncId) (h : ae) (tm : Tr SV) (o : Oper) : Option (SV × List E) :=
 match o.op with
 | .move x => some (aU tm x, [])
 | .assign x => some (aU tm x, [])
 | .pick c a b => plain (Bc (aU tm c) (aU tm a) (aU tm b))
 | .build t parts => plain (yC P t (parts.toList.map fun p => (p.1, aU tm p.2)))
 | .load t a => zK P h t (aU tm a)
 | .binOp op t x y _ => Dv P h (rJ hJ fn o.dst) op t x y (aU tm x) (aU tm y)
 | .unOp op _ x => Eu (rJ hJ fn o.dst) op (aU tm x)
 | .convert s d x => Bo P (rJ hJ fn o.dst) s d (aU tm x)
 | .makeInterface t x => match isIface P t with
  | some false => some (.iface t (aU tm x), [])
  | _ => none
 | .makeFunc (.func f) first captured => some (.func f (first.toList.map (aU tm)) (captured.toList.map (aU tm)), [])
 | .slice t x lo hi none => match CB tm lo, CB tm hi with
  | some l, some m => yn P h t (aU tm x) l m
  | _, _ => none
 | .fieldAddr s x f => plain (nj P s (aU tm x) f)
 | .field s x f => plain (yz P s (aU tm x) f)
 | .indexAddr t x i => nh P h t (aU tm x) (aU tm i)
 | .index t x i => yu P t (aU tm x) (aU tm i)
 | .extract x i => match aU tm x with
  | .tuple vs => plain vs[i]?
  | _ => none
 | .typeAssert x _ t ok => plain (kT P (aU tm x) t ok)
 | .nilCheck x => match aU tm x with
  | .addr b off => some (.addr b off, [])
  | .bI b i off => some (.bI b i off, [])
  | .func f a b => some (.func f a b, [])
  | .aF l => some (.aF l, [])
  | _ => none
 | .call { callee := .builtin b, args, argTypes } => match b, args.toList with
  | .len, [x] => match argTypes.toList with
   | t :: _ => plain (Dt P h t (aU tm x))
   | [] => none
  | .min, x :: xs => plain (xC Bf (aU tm x) (xs.map (aU tm)))
  | .max, x :: xs => plain (xC Bh (aU tm x) (xs.map (aU tm)))
  | _, _ => none
 | _ => none
def eY (h : ae) : SV -> ae
 | .view b => match h.get b with
  | some (.arr t e _) => { h with iz := h.iz + 1, t := h.t.set b (.dK t e h.iz) }
  | some (.tree t e none) => { h with iz := h.iz + 1, t := h.t.set b (.dK t e h.iz) }
  | _ => h
 | _ => h
def lZ (h : ae) (b : Nat) : ae :=
 match h.get b with
 | some (.dW t et e i c) =>
  let h1 := eY h (.view c)
  match h1.get c with
  | some (.dK t' e' _) => cond (Nat.beq t' et) { h1 with next := h1.next + 1, t := h1.t.set b (.arr t (.set e i e') h1.next) } h
  | _ => h
 | _ => h
def iw (h : ae) (v : SV) : ae :=
 match v with
 | .view b => eY (lZ h b) v
 | v => eY h v
def dG (h : ae) (l : List SV) : ae := l.foldl iw h
def kd (P : Program) (h : ae) (c : Nat) : Option (TypeId × E) :=
 match h.get c with
 | some (.arr t e _) => cond (bA P deep t) none (some (t, e))
 | some (.tree t e none) => some (t, e)
 | _ => none
def s8 (P : Program) (h : ae) (b : Nat) : ae :=
 match h.get b with
 | some (.tree t e (some (i, off, st, c))) => match partAt P t off st, P.underlying st, kd P h c with
  | some j, some (.slice et), some (t', e') => cond (Nat.beq t' et && fL P 10 et && !Nat.beq b c)
    ((h.kill c).set b (.tree t (cond (decide (e' = ez (e.get' i) j)) e (.set e i (dF (e.get' i) e' j))) none)) h
  | _, _, _ => h
 | _ => h
def s7 (P : Program) (h : ae) (b : Nat) : ae :=
 match h.get b with
 | some (.dh t et e i c i2 c2) => match kd P h c2 with
  | some (t', e') => cond (Nat.beq t' et && fL P 10 et && !Nat.beq b c2)
    ((h.kill c2).set b (.tree t (cond (decide (e' = e.get' i2)) e (.set e i2 e')) (some (i, 0, t, c)))) h
  | _ => h
 | _ => h
def settle (P : Program) : Nat -> ae -> Nat -> ae
 | 0, h, _ => h
 | n + 1, h, b => match h.get b with
  | some (.tree _ _ (some (_, _, _, c))) => s8 P (settle P n h c) b
  | some (.dh _ _ _ _ _ _ c2) => settle P n (s7 P (settle P n h c2) b) b
  | _ => h
def mr (P : Program) (h : ae) (l : List Nat) : ae := l.foldl (settle P 6) h
def fY (P : Program) (h : ae) : ae := mr P h (List.range h.next)
def eo (P : Program) (h : ae) (vs : List SV) : ae := mr P h (cond (vs.any fun | .view _ => true | _ => false) (List.range h.next) [])
def bh (P : Program) (et : TypeId) (x : E) (ib : Nat) : b5 := cond (bA P deep et) (.tree et x none) (.arr et x ib)
def sE (P : Program) (h : ae) (b : Nat) (i : E) (off : Nat) (st : TypeId) : ae × List E :=
 match h.get b with
 | some (.tree t e none) => match partAt P t off st, P.underlying st with
  | some j, some (.slice et) => ((h.new (bh P et (ez (e.get' i) j) h.next)).set b (.tree t e (some (i, off, st, h.next))), mC i e.len')
  | _, _ => (h, [])
 | _ => (h, [])
def iU (P : Program) (h : ae) (b : Nat) : ae :=
 match h.get b with
 | some (.tree t e none) => { h with next := h.next + 1, t := h.t.set b (.arr t e h.next) }
 | some (.tree t e (some (i, off, st, c))) => match partAt P t off st, P.underlying st, h.get c with
  | some j, some (.slice et), some (.dK t' e' _) => cond (Nat.beq t' et && fL P 10 et)
    { h with next := h.next + 1, t := h.t.set b (.arr t (.set e i (dF (e.get' i) e' j)) h.next) } h
  | _, _, _ => h
 | _ => h
def vV (P : Program) (h : ae) (b : Nat) (i : E) (off : Nat) (t : TypeId) : ae × List E :=
 match h.get b with
 | some (.tree _ _ (some (i', off', st, _))) => cond (decide (i = i') && Nat.beq off off' && Nat.beq st t) (h, []) (sE P (settle P 6 h b) b i off t)
 | _ => sE P h b i off t
def uA (P : Program) (h : ae) (b : Nat) (i : E) (t : TypeId) : ae × List E :=
 match h.get b with
 | some (.tree t' e (some (i', off', st, c))) => match P.underlying t' with
  | some (.slice et) => cond (Nat.beq t' t && Nat.beq st t && Nat.beq off' 0)
    ((h.new (bh P et (e.get' i) h.next)).set b (.dh t' et e i' c i h.next), .not (.eq i i') :: mC i e.len') (h, [])
  | _ => (h, [])
 | _ => (h, [])
def DS (P : Program) (hJ : Bool) (h : ae) (b : Nat) (i : E) (off : Nat) (t : TypeId) : ae × List E :=
 match h.get b with
 | some (.dh _ _ _ i1 _ i2 _) => cond ((decide (i = i1) || decide (i = i2)) && Nat.beq off 0) (h, []) (vV P (settle P 6 h b) b i off t)
 | some (.tree _ _ (some (i', _, _, _))) => cond (hJ && !decide (i = i') && Nat.beq off 0) (uA P h b i t) (vV P h b i off t)
 | _ => vV P h b i off t
def lG (h : ae) (b : Nat) : Bool :=
 match h.get b with
 | some (.tree ..) => true
 | some (.dh ..) => true
 | _ => false
def eU (P : Program) (h : ae) : SV -> ae
 | .view b => settle P 6 h b
 | _ => h
def gO (P : Program) (h : ae) : SV -> ae
 | .view b => iU P h b
 | _ => h
def qv (P : Program) (h : ae) (b : Nat) (i : E) (t : TypeId) : ae × List E :=
 match h.get b with
 | some (.arr t' e _) => match P.underlying t with
  | some (.slice et) => cond (Nat.beq t t' && fL P 11 et) ({ h.new (.arr et .nil h.next) with next := h.next + 2, t := (h.new (.arr et .nil h.next)).t.set b (.dW t et e i h.next) }, .isNil (e.get' i) :: mC i e.len') (h, [])
  | _ => (h, [])
 | _ => (h, [])
def DR (P : Program) (hJ : Bool) (h : ae) (b : Nat) (i : E) (t : TypeId) : ae × List E :=
 match h.get b with
 | some (.arr ..) => cond hJ (qv P h b i t) (h, [])
 | some (.dW _ _ _ i' _) => cond hJ (cond (decide (i = i')) (h, []) (qv P (lZ h b) b i t)) (lZ h b, [])
 | _ => (h, [])
def rV (P : Program) (hJ : Bool) (h : ae) (tm : Tr SV) (o : Oper) : ae × List E :=
 match o.op with
 | .load t a => match aU tm a with
  | .bI b i off => cond (lG h b && jW P t) (DS P hJ h b i off t) (cond (Nat.beq off 0) (DR P hJ h b i t) (h, []))
  | _ => (h, [])
 | .store t a x => match aU tm a with
  | .bI b i off => cond (lG h b) (cond (bA P deep t)
    (match aU tm x with
    | .view _ | .aV => vV P (match h.get b with | some (.dh ..) => settle P 6 h b | _ => h) b i off t
    | _ => (iU P (settle P 6 h b) b, []))
    (settle P 6 h b, [])) (match h.get b with
     | some (.dW _ _ _ i' _) => cond (decide (i = i') && Nat.beq off 0 && (match aU tm x with | .view _ => true | _ => false)) (h, []) (lZ h b, [])
     | _ => (h, []))
  | _ => (h, [])
 | .slice _ x _ _ _ => (iw (eU P h (aU tm x)) (aU tm x), [])
 | .buildSlice _ _ parts => (mr P h (parts.toList.flatMap fun p => (aU tm p.2).cells.filterMap fun | .view b => some b | _ => none), [])
 | .call { callee := .builtin b, args, argTypes } => match b, args.toList with
  | .append, [s, x] =>
   let h1 := eU P (eU P h (aU tm s)) (aU tm x)
   match aU tm s, aU tm x with
   | .aV, _ => (h1, [])
   | .view a, .view c => match lG h1 a, lG h1 c with
    | true, false => (iU P h1 a, [])
    | false, true => (iU P h1 c, [])
    | _, _ => (h1, [])
   | x, y => (gO P (gO P h1 x) y, [])
  | .copy, [d, s] => (gO P (eU P (eU P h (aU tm d)) (aU tm s)) (aU tm s), [])
  | _, _ => (h, [])
 | _ => (h, [])
def qw : List E -> E := fun l => l.foldl .snoc .emp
def lh (P : Program) (h : ae) (et : TypeId) (s : Nat) : Nat -> List (Nat × SV) -> Option (List E)
 | _, [] => some []
 | j, (i, v) :: ps => match v with
  | .bad => none
  | v => cond (Nat.beq i j && Nat.beq v.cells.length s) (match valOf P h deep et v.cells, lh P h et s (j + 1) ps with
   | some e, some l => some (e :: l)
   | _, _ => none) none
def kl (P : Program) (h : ae) : Nat -> TypeId -> List SV -> Option (E × List Nat)
 | 0, _, _ => none
 | d + 1, t, cs => cond (bA P deep t) (match aA P t with
  | none => none
  | some n => match P.underlying t with
   | some (.slice et) => cond (Nat.beq n 1 && fL P d et) (match aA P et with
    | some (_ + 1) => (match cs with
     | .aV :: _ => some (.nil, [])
     | .view b :: _ => match kd P h b with
      | some (t', e) => cond (Nat.beq t' et) (some (e, [b])) none
      | none => none
     | _ => none)
    | _ => none) none
   | some (.struct fields) => cond (decide (tight P fields.toList 0 = some n) && Nat.ble n cs.length) (fields.toList.foldl (fun r f => match r, kl P h d f.type (cs.drop f.offset) with
     | some x, some y => some (.snoc x.1 y.1, x.2 ++ y.2)
     | _, _ => none) (some (.emp, []))) none
   | _ => none) ((valOf P h (d + 1) t cs).map fun e => (e, []))
def sB (P : Program) (h : ae) (et : TypeId) (s : Nat) : Nat -> List (Nat × SV) -> Option (List E × List Nat)
 | _, [] => some ([], [])
 | j, (i, v) :: ps => match v with
  | .bad => none
  | v => cond (Nat.beq i j && Nat.beq v.cells.length s) (match kl P h deep et v.cells, sB P h et s (j + 1) ps with
   | some e, some l => some (e.1 :: l.1, e.2 ++ l.2)
   | _, _ => none) none
def qy (h : ae) (l : List Nat) : ae := l.foldl ae.kill h
def iI (P : Program) (hJ : DM) (fn : FuncId) (h : ae) (tm : Tr SV) (o : Oper) : Option (ae × SV × List E) :=
 cond (rJ hJ fn o.dst) (match o.op with
 | .buildSlice t len parts => match P.underlying t with
  | some (.slice et) => match aA P et, jN P et with
   | some s, some z =>
    let ps := parts.toList.map fun p => (p.1, aU tm p.2)
    cond (Nat.beq z.cells.length s && Nat.blt 0 s && Nat.ble (len * s) 16777216 && Nat.beq ps.length len && z.cells.all SV.one)
     (match sB P h et s 0 ps with
     | some (l, bs) => cond (cz bs) (some ((qy h bs).new (.tree et (qw l) none), .view h.next, [])) none
     | none => none) none
   | _, _ => none
  | _ => none
 | .makeSlice t l c => match P.underlying t with
  | some (.slice et) => match P.info? et, jN P et, aU tm l, aU tm c with
   | some i, some z, .int _ m, .int _ n =>
    cond (Nat.beq z.cells.length i.size && Nat.blt 0 i.size && Nat.blt 0 i.bytes && decide (m = n) && z.cells.all SV.one)
     (match kl P h deep et z.cells with
     | some (ze, []) => some (h.new (.tree et (.rep n ze) none), .view h.next, ask ((E.le' (.il 0) n).and' (E.le' n (.il (Int.ofNat (Nat.div 140737488355328 i.bytes))))))
     | _ => none) none
   | _, _, _, _ => none
  | _ => none
 | _ => none) none
def sc (P : Program) (h : ae) (tm : Tr SV) (o : Oper) : Option (ae × SV × List E) :=
 match o.op with
 | .alloc t => match jN P t with
  | some z => cond (z.cells.all SV.one) (some (h.new (.cells z.cells), .addr h.next 0, [])) none
  | none => none
 | .box _ x => match aU tm x with
  | .bad => none
  | v => cond (v.cells.all SV.one) (some (h.new (.cells v.cells), .addr h.next 0, [])) none
 | .buildSlice t len parts => match P.underlying t with
  | some (.slice et) => match aA P et, jN P et with
   | some s, some z =>
    let ps := parts.toList.map fun p => (p.1, aU tm p.2)
    let h1 := dG h (ps.flatMap fun p => p.2.cells)
    cond (Nat.beq z.cells.length s && Nat.blt 0 s && Nat.ble (len * s) 16777216 && Nat.beq ps.length len && z.cells.all SV.one)
     (match lh P h1 et s 0 ps with
     | some l => some (h1.new (.arr et (qw l) h1.next), .view h1.next, [])
     | none => none) none
   | _, _ => none
  | _ => none
 | .makeSlice t l c => match P.underlying t with
  | some (.slice et) => match P.info? et, jN P et, aU tm l, aU tm c with
   | some i, some z, .int _ m, .int _ n =>
    cond (Nat.beq z.cells.length i.size && Nat.blt 0 i.size && Nat.blt 0 i.bytes && decide (m = n) && z.cells.all SV.one)
     (match valOf P h deep et z.cells with
     | some ze => some (h.new (.arr et (.rep n ze) h.next), .view h.next, ask ((E.le' (.il 0) n).and' (E.le' n (.il (Int.ofNat (Nat.div 140737488355328 i.bytes))))))
     | none => none) none
   | _, _, _, _ => none
  | _ => none
 | _ => none
inductive oQ where
 | value (v : SV)
 | enter (f : FuncId) (args : List SV)
 | round (l : Nat)
 | defer (d : oR)
 | recover
def nW (P : Program) (et : TypeId) (e : E) (off : Nat) (t : TypeId) (x : E) : Option E :=
 cond (Nat.beq off 0 && Nat.beq t et) (some x) (match P.underlying et with
  | some (.struct fields) => match fieldAt fields.toList off 0 with
   | some (j, f) => cond (Nat.beq f.type t) (some (.set e (.il (Int.ofNat j)) x)) none
   | none => none
  | _ => none)
def u9 (P : Program) (h : ae) (t : TypeId) (a v : SV) : Option (ae × List E) :=
 match a with
 | .addr b off => match h.get b with
  | some (.cells cs) => match aA P t with
   | some s => cond (Nat.beq v.cells.length s && Nat.ble (off + s) cs.length && v.cells.all SV.one)
     (some (h.set b (.cells (jl cs off v.cells)), [])) none
   | none => none
  | _ => none
 | .bI b i off =>
  let h1 := dG h v.cells
  match h1.get b with
  | some (.arr et e _) => match aA P t with
   | some s => cond (Nat.beq v.cells.length s && Nat.blt 0 s && v.cells.all SV.one) (match valOf P h1 11 t v.cells with
    | some x => match nW P et (e.get' i) off t x with
     | some y => some ({ h1 with next := h1.next + 1, t := h1.t.set b (.arr et (.set e i y) h1.next) }, mC i e.len')
     | none => none
    | none => none) none
   | none => none
  | _ => none
 | _ => none
def jM (P : Program) (h : ae) (t : TypeId) (a v : SV) : Option (ae × List E) :=
 match a with
 | .bI b i off => match h.get b with
  | some (.tree et e hole) => match partAt P et off t with
   | some j => match hole with
    | none => cond (bA P deep t) none (match aA P t with
     | some s => cond (Nat.beq v.cells.length s && Nat.blt 0 s && v.cells.all SV.one) (match valOf P h 11 t v.cells with
      | some x => some (h.set b (.tree et (.set e i (dF (e.get' i) x j)) none), mC i e.len')
      | none => none) none
     | none => none)
    | some (i', off', st, _) => cond (decide (i = i') && Nat.beq off off' && Nat.beq st t) (match v, P.underlying t, aA P t with
     | .view c, some (.slice _), some 1 => some (h.set b (.tree et e (some (i, off, t, c))), mC i e.len')
     | .aV, some (.slice et'), some 1 => match aA P et' with
      | some (_ + 1) => some ((h.new (bh P et' .nil h.next)).set b (.tree et e (some (i, off, t, h.next))), mC i e.len')
      | _ => none
     | _, _, _ => none) none
   | none => none
  | some (.dW et et' e i' _) => cond (decide (i = i') && Nat.beq off 0 && Nat.beq et t) (match v with
   | .view c => match h.get c with
    | some (.arr ..) => some (h.set b (.dW et et' e i' c), mC i e.len')
    | _ => none
   | _ => none) none
  | _ => none
 | _ => none
def E.app' (a : E) : E -> E
 | .nil => a
 | .emp => a
 | .snoc b y => .snoc (E.app' a b) y
 | b => .app a b
def sI (bytes : Nat) : Nat := Nat.div (Nat.div 140737488355328 bytes - 1024) 2
def rp (P : Program) (h : ae) (st xt : TypeId) (s x : SV) : Option (SV × ae × List E) :=
 match P.underlying st, P.underlying xt with
 | some (.slice et), some (.slice xe) => match P.info? et, jN P et with
  | some i, some z =>
   cond (Nat.beq z.cells.length i.size && Nat.blt 0 i.size && Nat.blt 0 i.bytes && z.cells.all SV.one)
   (match (match x with | .aV => some (et, E.nil) | x => kq h x) with
   | some (xe, ex) => cond (Nat.beq xe et) (match s with
    | .aV => some (.view h.next, h.new (.arr et (E.app' .nil ex) h.next), ask (E.le' ex.len' (.il (Int.ofNat (sI i.bytes)))))
    | .view b => match h.get b with
     | some (.arr et' e _) => cond (Nat.beq et' et) (some (.view h.next, (h.kill b).new (.arr et (E.app' e ex) h.next), ask (E.le' (e.len'.add' ex.len') (.il (Int.ofNat (sI i.bytes)))))) none
     | _ => none
    | _ => none) none
   | none => none) none
  | _, _ => none
 | _, _ => none
def iG (P : Program) (h : ae) (st xt : TypeId) (s x : SV) : Option (SV × ae × List E) :=
 match P.underlying st, P.underlying xt, x with
 | some (.slice et), some (.slice _), .view c => match P.info? et, jN P et, h.get c with
  | some i, some z, some (.tree et' ex none) =>
   cond (Nat.beq z.cells.length i.size && Nat.blt 0 i.size && Nat.blt 0 i.bytes && z.cells.all SV.one && Nat.beq et' et)
   (match s with
    | .aV => some (.view h.next, (h.kill c).new (.tree et (E.app' .nil ex) none), ask (E.le' ex.len' (.il (Int.ofNat (sI i.bytes)))))
    | .view b => match h.get b with
     | some (.tree et2 e none) => cond (Nat.beq et2 et && !Nat.beq b c) (some (.view h.next, ((h.kill c).kill b).new (.tree et (E.app' e ex) none), ask (E.le' (e.len'.add' ex.len') (.il (Int.ofNat (sI i.bytes)))))) none
     | _ => none
    | _ => none) none
  | _, _, _ => none
 | _, _, _ => none
def zN (P : Program) (h : ae) (dt : TypeId) (d s : SV) : Option (SV × ae × List E) :=
 match P.underlying dt with
 | some (.slice et) => match aA P et with
  | some sz => match kq h s, d with
   | some (xe, ex), .view b => match h.get b with
    | some (.arr et' e _) => cond (Nat.beq et' et && Nat.beq xe et)
      (some (.int .i64 (.min ex.len' e.len'), { h with next := h.next + 1, t := h.t.set b (.arr et (.over e ex) h.next) }, ask (E.not (.isNil e)))) none
    | _ => none
   | _, _ => none
  | none => none
 | _ => none
def wI (P : Program) (f : SV) (args : List SV) : Option oQ :=
 match f with
 | .func f first captured => match P.funcs[f]? with
  | some fn => match fn.body with
   | some _ => some (.enter f (first ++ args ++ captured))
   | none => none
  | none => none
 | .aF l => some (.round l)
 | _ => none
def sa (P : Program) (h : ae) (tm : Tr SV) (o : Oper) : Option (oQ × ae × List E) :=
 match o.op with
 | .store t a x => match u9 P h t (aU tm a) (aU tm x) with
  | some r => some (.value .bad, r.1, r.2)
  | none => (jM P h t (aU tm a) (aU tm x)).map fun r => (.value .bad, r.1, r.2)
 | .call { callee := .builtin b, args, argTypes } => match b, args.toList, argTypes.toList with
  | .append, [s, x], [st, xt] => match rp P h st xt (aU tm s) (aU tm x) with
   | some r => some (.value r.1, r.2)
   | none => (iG P h st xt (aU tm s) (aU tm x)).map fun r => (.value r.1, r.2)
  | .copy, [d, s], t :: _ => (zN P h t (aU tm d) (aU tm s)).map fun r => (.value r.1, r.2)
  | .recover, [], _ => some (.recover, h, [])
  | _, _, _ => none
 | .call { callee := .value f, args, .. } => (wI P (aU tm f) (args.toList.map (aU tm))).map fun n => (n, h, [])
 | .defer { callee := .value f, args, .. } => match aU tm f with
  | .func f first captured => some (.defer { yj := .func f, args := first ++ args.toList.map (aU tm) ++ captured }, h, [])
  | _ => none
 | _ => none
end
end Go.Sym
