/- Texts of the claim: SymOps. -/
import Derived.Test.YtildjgdhdcoojaaDoorZ02
set_option linter.unusedVariables false
set_option linter.unusedSimpArgs false
namespace Go.Sym
open Go Go.Abs
noncomputable section
abbrev Pol := List (Nat × Nat)
def wraps (pol : Pol) (f : FuncId) (d : Option Tmp) : Bool :=
 match d with
 | some d => pol.any fun x => Nat.beq x.1 f && Nat.beq x.2 d
 | none => false
def takeS : Nat -> List SV -> Option (List SV)
 | 0, _ => some []
 | n + 1, x :: xs => (takeS n xs).map (x :: ·)
 | _ + 1, [] => none
def readAtS (P : Program) (t : TypeId) (cs : List SV) : Option SV :=
 match isAggT P t with
 | some true => match sizeT P t with
  | some n => (takeS n cs).map .agg
  | none => none
 | some false => match cs with
  | c :: _ => some c
  | [] => none
 | none => none
def elemOf (P : Program) (h : SHeap) (b : Nat) (i : E) : Option (List SV × E) :=
 match h.get b with
 | some (.arr et e ver) => match sizeT P et with
  | some sz => (cellsOf P (fun o => .elB b ver i sz o) deep et (e.get' i) 0).map fun cs => (cs, e)
  | none => none
 | some (.froz et e n) => match sizeT P et with
  | some sz => (cellsOf P (fun o => .el (.cell n 0) i sz o) deep et (e.get' i) 0).map fun cs => (cs, e)
  | none => none
 | _ => none
def fieldAt : List Field -> Nat -> Nat -> Option (Nat × Field)
 | [], _, _ => none
 | f :: fs, off, j => cond (Nat.beq f.offset off) (some (j, f)) (fieldAt fs off (j + 1))
def partAt (P : Program) (et : TypeId) (off : Nat) (t : TypeId) : Option (Option Nat) :=
 cond (Nat.beq off 0 && Nat.beq t et) (some none) (match P.underlying et with
  | some (.struct fields) => match fieldAt fields.toList off 0 with
   | some (j, f) => cond (Nat.beq f.type t) (some (some j)) none
   | none => none
  | _ => none)
def getPart (e : E) : Option Nat -> E
 | none => e
 | some j => e.get' (.il (Int.ofNat j))
def putPart (e x : E) : Option Nat -> E
 | none => x
 | some j => .set e (.il (Int.ofNat j)) x
def flatV (v : SV) : Bool := v.cells.all fun
 | .bool _ | .int _ _ | .str _ => true
 | _ => false
def isSliceT (P : Program) (t : TypeId) : Bool :=
 match P.underlying t with
 | some (.slice _) => true
 | _ => false
def besides : Option Nat -> Option Nat -> Bool
 | some j, some k => !Nat.beq j k
 | _, _ => false
def treeBeside (P : Program) (et : TypeId) (j : Option Nat) : Option (E × Nat × TypeId × Nat) -> Bool
 | none => true
 | some (_, off, st, _) => match partAt P et off st with
  | some k => besides j k
  | none => false
def treeLoad (P : Program) (h : SHeap) (t : TypeId) (b : Nat) (i : E) (off : Nat) : Option (SV × List E) :=
 match h.get b with
 | some (.tree et e hole) => match partAt P et off t with
  | some j => cond (slicy P deep t)
    (match hole with
    | some (i', off', st, c) => cond (decide (i = i') && Nat.beq off off' && Nat.beq st t && isSliceT P t) (some (.view c, inb i e.len')) none
    | none => none)
    (cond (treeBeside P et j hole) (match cellsOf P (fun o => .cell 0 o) deep t (getPart (e.get' i) j) 0 with
    | some cs => match readAtS P t cs with
     | some v => cond (flatV v) (some (v, inb i e.len')) none
     | none => none
    | none => none) none)
  | none => none
 | some (.arrH et _ e i' c) => cond (decide (i = i') && Nat.beq off 0 && Nat.beq et t) (some (.view c, inb i e.len')) none
 | some (.tree2 et _ e i1 c1 i2 c2) => cond (Nat.beq off 0 && Nat.beq et t) (cond (decide (i = i1)) (some (.view c1, inb i e.len')) (cond (decide (i = i2)) (some (.view c2, inb i e.len')) none)) none
 | _ => none
def sload (P : Program) (h : SHeap) (t : TypeId) (a : SV) : Option (SV × List E) :=
 match a with
 | .addr b off => match h.get b with
  | some (.cells cs) => (readAtS P t (cs.drop off)).map fun v => (v, [])
  | _ => none
 | .addrE b i off => match elemOf P h b i with
  | some (cs, e) => cond (Nat.blt off cs.length) ((readAtS P t (cs.drop off)).map fun v => (v, inb i e.len')) none
  | none => treeLoad P h t b i off
 | .pptr t' e p i sz off => match cellsOf P (fun o => .el p i sz o) deep t' e off with
  | some cs => (readAtS P t cs).map fun v => (v, [])
  | none => none
 | .gp cs => (readAtS P t cs).map fun v => (v, [])
 | _ => none
def sfieldAddr (P : Program) (s : TypeId) (a : SV) (f : Nat) : Option SV :=
 match fieldOf P s f with
 | some fd => match sizeT P fd.type with
  | some (_ + 1) => match a with
   | .addr b off => some (.addr b (off + fd.offset))
   | .addrE b i off => some (.addrE b i (off + fd.offset))
   | .pptr t e p i sz off => match fieldOf P t f with
    | some fd' => cond (Nat.beq fd'.type fd.type && Nat.beq fd'.offset fd.offset) (some (.pptr fd.type (e.get' (.il (Int.ofNat f))) p i sz (off + fd.offset))) none
    | none => none
   | _ => none
  | _ => none
 | none => none
def pureOf (h : SHeap) : SV -> Option (TypeId × E × PA)
 | .pure t e p => some (t, e, p)
 | .view b => match h.get b with
  | some (.froz t e n) => some (t, e, .cell n 0)
  | _ => none
 | _ => none
def listOf (h : SHeap) : SV -> Option (TypeId × E)
 | .pure t e p => some (t, e)
 | .view b => match h.get b with
  | some (.froz t e n) => some (t, e)
  | some (.arr t e _) => some (t, e)
  | _ => none
 | _ => none
def lenOf (h : SHeap) (x : SV) : Option E :=
 match x with
 | .view b => match h.get b with
  | some (.tree t e _) => some e
  | some (.arrH _ _ e _ _) => some e
  | some (.tree2 _ _ e _ _ _ _) => some e
  | _ => (listOf h (.view b)).map (·.2)
 | x => (listOf h x).map (·.2)
def lit? : E -> Option Nat
 | .il (.ofNat n) => some n
 | _ => none
def sindexAddr (P : Program) (h : SHeap) (t : TypeId) (x ix : SV) : Option (SV × List E) :=
 match ix with
 | .int _ i => match P.underlying t with
  | some (.array len elem) => match lit? i, sizeT P elem with
   | some n, some s => cond (Nat.blt n len) (match x with
    | .addr b off => some (.addr b (off + n * s), [])
    | .addrE b j off => some (.addrE b j (off + n * s), [])
    | .gp cs => some (.gp (cs.drop (n * s)), [])
    | _ => none) none
   | _, _ => none
  | some (.slice elem) => match sizeT P elem with
   | some s => match x with
    | .view b => match h.get b with
     | some (.arr et e _) => cond (Nat.beq et elem) (some (.addrE b i 0, inb i e.len')) none
     | some (.froz et e _) => cond (Nat.beq et elem) (some (.addrE b i 0, inb i e.len')) none
     | some (.tree et e _) => cond (Nat.beq et elem) (some (.addrE b i 0, inb i e.len')) none
     | some (.arrH et _ e _ _) => cond (Nat.beq et elem) (some (.addrE b i 0, inb i e.len')) none
     | some (.tree2 et _ e _ _ _ _) => cond (Nat.beq et elem) (some (.addrE b i 0, inb i e.len')) none
     | _ => none
    | .pure et e p => cond (Nat.beq et elem) (some (.pptr et (e.get' i) p i s 0, inb i e.len')) none
    | _ => none
   | none => none
  | _ => none
 | _ => none
def sfield (P : Program) (s : TypeId) (x : SV) (f : Nat) : Option SV :=
 match x with
 | .agg cs => match fieldOf P s f with
  | some fd => readAtS P fd.type (cs.drop fd.offset)
  | none => none
 | _ => none
def sindex (P : Program) (t : TypeId) (x ix : SV) : Option (SV × List E) :=
 match ix with
 | .int _ i => match P.underlying t with
  | some (.array len elem) => match x with
   | .agg cs => match lit? i, sizeT P elem with
    | some n, some s => cond (Nat.blt n len) ((readAtS P elem (cs.drop (n * s))).map fun v => (v, [])) none
    | _, _ => none
   | _ => none
  | _ => none
 | _ => none
def sOpt (tm : Tr SV) : Option Operand -> Option (Option E)
 | none => some none
 | some x => match sEval tm x with
  | .int _ e => some (some e)
  | _ => none
def sslice (P : Program) (h : SHeap) (t : TypeId) (x : SV) (lo hi : Option E) : Option (SV × List E) :=
 match P.underlying t with
 | some (.slice elem) => match sizeT P elem, pureOf h x with
  | some s, some (et, e, p) =>
   let n := e.len'
   let m := hi.getD n
   let l := lo.getD (.il 0)
   cond (Nat.beq et elem) (some (.pure et (.cut e l m) (.sub p l m s), ask ((E.le' (.il 0) l).and' (E.le' l m)) ++ ask (E.le' m n))) none
  | _, _ => none
 | _ => none
def slen (P : Program) (h : SHeap) (t : TypeId) (x : SV) : Option SV :=
 match P.underlying t with
 | some (.array n _) => some (.int .i64 (.il n))
 | some (.slice _) => match x with
  | .nils => some (.int .i64 (.il 0))
  | x => (lenOf h x).map fun r => .int .i64 r.len'
 | _ => none
def sbinInt (w : Bool) (op : BinOp) (k : IntKind) (a b : E) : Option (SV × List E) :=
 match op with
 | .add => some (.int k (fit w k (a.add' b)).1, (fit w k (a.add' b)).2)
 | .sub => some (.int k (fit w k (a.sub' b)).1, (fit w k (a.sub' b)).2)
 | .mul => some (.int k (fit w k (a.mul' b)).1, (fit w k (a.mul' b)).2)
 | .quo => some (.int k (fit w k (.quo a b)).1, ask (E.eq' b (.il 0)).not' ++ (fit w k (.quo a b)).2)
 | .rem => some (.int k (.rem a b), ask (E.eq' b (.il 0)).not')
 | .eql => some (.bool (E.eq' a b), [])
 | .neq => some (.bool (E.eq' a b).not', [])
 | .lss => some (.bool (E.lt' a b), [])
 | .leq => some (.bool (E.le' a b), [])
 | .gtr => some (.bool (E.lt' b a), [])
 | .geq => some (.bool (E.le' b a), [])
 | .and | .or | .xor | .andNot => some (.int k (.bits op k a b), [])
 | _ => none
def seqIn (P : Program) (h : SHeap) : Nat -> TypeId -> SV -> SV -> Option E
 | 0, _, _, _ => none
 | d + 1, t, x, y => match P.underlying t with
  | some .bool => match x, y with
   | .bool a, .bool b => some (.beq a b)
   | _, _ => none
  | some (.int _) => match x, y with
   | .int j a, .int k b => cond (decide (j = k)) (some (E.eq' a b)) none
   | _, _ => none
  | some .string => match x, y with
   | .str a, .str b => some (.seq a b)
   | _, _ => none
  | some (.pointer _) => match x, y with
   | .nilp, .nilp => some (.bl true)
   | .nilp, .addr _ _ | .addr _ _, .nilp => some (.bl false)
   | _, _ => none
  | some (.interface _) => match x, y with
   | .nili, .nili => some (.bl true)
   | .nili, .iface _ _ | .iface _ _, .nili => some (.bl false)
   | _, _ => none
  | some (.struct fields) => match x, y with
   | .agg xs, .agg ys => cond (P.stoodInHeld t) none (fields.toList.foldr (fun f r =>
     cond (decide (f.name = "_")) r (match readAtS P f.type (xs.drop f.offset), readAtS P f.type (ys.drop f.offset), r with
      | some a, some b, some r => match seqIn P h d f.type a b with
       | some c => some (c.and' r)
       | none => none
      | _, _, _ => none)) (some (.bl true)))
   | _, _ => none
  | some (.array len elem) => match x, y with
   | .agg xs, .agg ys => match sizeT P elem with
    | some n => (List.range len).foldr (fun i r => match readAtS P elem (xs.drop (i * n)), readAtS P elem (ys.drop (i * n)), r with
      | some a, some b, some r => match seqIn P h d elem a b with
       | some c => some (c.and' r)
       | none => none
      | _, _, _ => none) (some (.bl true))
    | none => none
   | _, _ => none
  | some (.slice _) => match x, y with
   | .nils, .nils => some (.bl true)
   | .nils, y => (lenOf h y).map fun r => .isNil r
   | x, .nils => (lenOf h x).map fun r => .isNil r
   | _, _ => none
  | some (.func _ _ _) => match x, y with
   | .nilf, .nilf => some (.bl true)
   | .nilf, .func _ _ _ | .func _ _ _, .nilf => some (.bl false)
   | _, _ => none
  | _ => none
def sguardOk (P : Program) (t : TypeId) (x y : Operand) (a b : SV) : Bool :=
 match a, b with
 | .nili, .nili => isConst x || isConst y
 | .agg _, .agg _ => !P.eqGuardType P.depth t
 | _, _ => true
def sbin (P : Program) (h : SHeap) (w : Bool) (op : BinOp) (t : TypeId) (x y : Operand) (a b : SV) : Option (SV × List E) :=
 match a, b with
 | .int j m, .int k n => match op with
  | .shl => some (.int j (fit w j (.shl j m n)).1, ask (E.le' (.il 0) n) ++ (fit w j (.shl j m n)).2)
  | .shr => some (.int j (.shr j m n), ask (E.le' (.il 0) n))
  | _ => cond (decide (j = k)) (sbinInt w op j m n) none
 | .bad, _ | _, .bad => none
 | .str _, .str _ => none
 | _, _ => match op with
  | .eql => cond (sguardOk P t x y a b) ((seqIn P h deep t a b).map fun e => (.bool e, [])) none
  | .neq => cond (sguardOk P t x y a b) ((seqIn P h deep t a b).map fun e => (.bool e.not', [])) none
  | _ => none
def sun (w : Bool) (op : UnOp) (x : SV) : Option (SV × List E) :=
 match op, x with
 | .neg, .int k n => some (.int k (fit w k (E.sub' (.il 0) n)).1, (fit w k (E.sub' (.il 0) n)).2)
 | .not, .bool b => some (.bool b.not', [])
 | _, _ => none
def sconv (P : Program) (w : Bool) (src dst : TypeId) (x : SV) : Option (SV × List E) :=
 match P.underlying src, P.underlying dst with
 | some _, some (.int k) => match x with
  | .int _ n => some (.int k (fit w k n).1, (fit w k n).2)
  | _ => none
 | some _, some .string => match x with
  | .str s => some (.str s, [])
  | _ => none
 | _, _ => none
def szero (P : Program) (t : TypeId) : Option SV :=
 match P.info? t with
 | some i => i.zero.map sOfV
 | none => none
def spliceS (cs : List SV) (off : Nat) (vs : List SV) : List SV := cs.take off ++ vs ++ cs.drop (off + vs.length)
def sfill (place : Nat -> Option (Nat × Nat)) (cells : List SV) : List (Nat × SV) -> Option (List SV)
 | [] => some cells
 | (i, v) :: rest => match v with
  | .bad => none
  | _ => match place i with
   | none => none
   | some (off, size) => cond (Nat.beq v.cells.length size && Nat.ble (off + v.cells.length) cells.length)
     (sfill place (spliceS cells off v.cells) rest) none
def sbuild (P : Program) (t : TypeId) (parts : List (Nat × SV)) : Option SV :=
 match szero P t with
 | some (.agg z) => match P.underlying t with
  | some (.struct fields) => match placesOf P fields.toList with
   | some l => (sfill (fun i => l[i]?) z parts).map .agg
   | none => none
  | some (.array _ elem) => match sizeT P elem with
   | some s => (sfill (fun i => some (i * s, s)) z parts).map .agg
   | none => none
  | _ => none
 | _ => none
def spick (c a b : SV) : Option SV :=
 match c with
 | .bool (.bl true) => some a
 | .bool (.bl false) => some b
 | .bool e => match a, b with
  | .bool x, .bool y => some (.bool (.ite e x y))
  | .int j x, .int k y => cond (decide (j = k)) (some (.int j (.ite e x y))) none
  | _, _ => none
 | _ => none
def stypeAssert (P : Program) (x : SV) (asserted : TypeId) (commaOk : Bool) : Option SV :=
 match isIface P asserted with
 | some false => match x with
  | .iface t v => cond (Nat.beq t asserted) (some (cond commaOk (.tuple [v, .bool (.bl true)]) v))
    (cond commaOk ((szero P asserted).map fun z => .tuple [z, .bool (.bl false)]) none)
  | .nili => cond commaOk ((szero P asserted).map fun z => .tuple [z, .bool (.bl false)]) none
  | _ => none
 | _ => none
def smin2 (x y : SV) : Option SV :=
 match x, y with
 | .int k a, .int _ b => some (.int k (.min a b))
 | _, _ => none
def smax2 (x y : SV) : Option SV :=
 match x, y with
 | .int k a, .int _ b => some (.int k (.max a b))
 | _, _ => none
def foldS (f : SV -> SV -> Option SV) : SV -> List SV -> Option SV
 | a, [] => some a
 | a, x :: xs => match f a x with
  | some b => foldS f b xs
  | none => none
def plain (o : Option SV) : Option (SV × List E) := o.map fun v => (v, [])
def slight (P : Program) (pol : Pol) (fn : FuncId) (h : SHeap) (tm : Tr SV) (o : Oper) : Option (SV × List E) :=
 match o.op with
 | .move x => some (sEval tm x, [])
 | .assign x => some (sEval tm x, [])
 | .pick c a b => plain (spick (sEval tm c) (sEval tm a) (sEval tm b))
 | .build t parts => plain (sbuild P t (parts.toList.map fun p => (p.1, sEval tm p.2)))
 | .load t a => sload P h t (sEval tm a)
 | .binOp op t x y _ => sbin P h (wraps pol fn o.dst) op t x y (sEval tm x) (sEval tm y)
 | .unOp op _ x => sun (wraps pol fn o.dst) op (sEval tm x)
 | .convert s d x => sconv P (wraps pol fn o.dst) s d (sEval tm x)
 | .makeInterface t x => match isIface P t with
  | some false => some (.iface t (sEval tm x), [])
  | _ => none
 | .makeFunc (.func f) first captured => some (.func f (first.toList.map (sEval tm)) (captured.toList.map (sEval tm)), [])
 | .slice t x lo hi none => match sOpt tm lo, sOpt tm hi with
  | some l, some m => sslice P h t (sEval tm x) l m
  | _, _ => none
 | .fieldAddr s x f => plain (sfieldAddr P s (sEval tm x) f)
 | .field s x f => plain (sfield P s (sEval tm x) f)
 | .indexAddr t x i => sindexAddr P h t (sEval tm x) (sEval tm i)
 | .index t x i => sindex P t (sEval tm x) (sEval tm i)
 | .extract x i => match sEval tm x with
  | .tuple vs => plain vs[i]?
  | _ => none
 | .typeAssert x _ t ok => plain (stypeAssert P (sEval tm x) t ok)
 | .nilCheck x => match sEval tm x with
  | .addr b off => some (.addr b off, [])
  | .addrE b i off => some (.addrE b i off, [])
  | .func f a b => some (.func f a b, [])
  | .yieldf l => some (.yieldf l, [])
  | _ => none
 | .call { callee := .builtin b, args, argTypes } => match b, args.toList with
  | .len, [x] => match argTypes.toList with
   | t :: _ => plain (slen P h t (sEval tm x))
   | [] => none
  | .min, x :: xs => plain (foldS smin2 (sEval tm x) (xs.map (sEval tm)))
  | .max, x :: xs => plain (foldS smax2 (sEval tm x) (xs.map (sEval tm)))
  | _, _ => none
 | _ => none
def freeze0 (h : SHeap) : SV -> SHeap
 | .view b => match h.get b with
  | some (.arr t e _) => { h with ats := h.ats + 1, t := h.t.set b (.froz t e h.ats) }
  | some (.tree t e none) => { h with ats := h.ats + 1, t := h.t.set b (.froz t e h.ats) }
  | _ => h
 | _ => h
def closeA (h : SHeap) (b : Nat) : SHeap :=
 match h.get b with
 | some (.arrH t et e i c) =>
  let h1 := freeze0 h (.view c)
  match h1.get c with
  | some (.froz t' e' _) => cond (Nat.beq t' et) { h1 with next := h1.next + 1, t := h1.t.set b (.arr t (.set e i e') h1.next) } h
  | _ => h
 | _ => h
def freeze1 (h : SHeap) (v : SV) : SHeap :=
 match v with
 | .view b => freeze0 (closeA h b) v
 | v => freeze0 h v
def freezes (h : SHeap) (l : List SV) : SHeap := l.foldl freeze1 h
def wholeOf (P : Program) (h : SHeap) (c : Nat) : Option (TypeId × E) :=
 match h.get c with
 | some (.arr t e _) => cond (slicy P deep t) none (some (t, e))
 | some (.tree t e none) => some (t, e)
 | _ => none
def close1 (P : Program) (h : SHeap) (b : Nat) : SHeap :=
 match h.get b with
 | some (.tree t e (some (i, off, st, c))) => match partAt P t off st, P.underlying st, wholeOf P h c with
  | some j, some (.slice et), some (t', e') => cond (Nat.beq t' et && finT P 10 et && !Nat.beq b c)
    ((h.kill c).set b (.tree t (cond (decide (e' = getPart (e.get' i) j)) e (.set e i (putPart (e.get' i) e' j))) none)) h
  | _, _, _ => h
 | _ => h
def close2 (P : Program) (h : SHeap) (b : Nat) : SHeap :=
 match h.get b with
 | some (.tree2 t et e i c i2 c2) => match wholeOf P h c2 with
  | some (t', e') => cond (Nat.beq t' et && finT P 10 et && !Nat.beq b c2)
    ((h.kill c2).set b (.tree t (cond (decide (e' = e.get' i2)) e (.set e i2 e')) (some (i, 0, t, c)))) h
  | _ => h
 | _ => h
def settle (P : Program) : Nat -> SHeap -> Nat -> SHeap
 | 0, h, _ => h
 | n + 1, h, b => match h.get b with
  | some (.tree _ _ (some (_, _, _, c))) => close1 P (settle P n h c) b
  | some (.tree2 _ _ _ _ _ _ c2) => settle P n (close2 P (settle P n h c2) b) b
  | _ => h
def settleL (P : Program) (h : SHeap) (l : List Nat) : SHeap := l.foldl (settle P 6) h
def settleAll (P : Program) (h : SHeap) : SHeap := settleL P h (List.range h.next)
def settleFor (P : Program) (h : SHeap) (vs : List SV) : SHeap := settleL P h (cond (vs.any fun | .view _ => true | _ => false) (List.range h.next) [])
def innerObj (P : Program) (et : TypeId) (x : E) (ver : Nat) : SObj := cond (slicy P deep et) (.tree et x none) (.arr et x ver)
def open1 (P : Program) (h : SHeap) (b : Nat) (i : E) (off : Nat) (st : TypeId) : SHeap × List E :=
 match h.get b with
 | some (.tree t e none) => match partAt P t off st, P.underlying st with
  | some j, some (.slice et) => ((h.new (innerObj P et (getPart (e.get' i) j) h.next)).set b (.tree t e (some (i, off, st, h.next))), inb i e.len')
  | _, _ => (h, [])
 | _ => (h, [])
def demote (P : Program) (h : SHeap) (b : Nat) : SHeap :=
 match h.get b with
 | some (.tree t e none) => { h with next := h.next + 1, t := h.t.set b (.arr t e h.next) }
 | some (.tree t e (some (i, off, st, c))) => match partAt P t off st, P.underlying st, h.get c with
  | some j, some (.slice et), some (.froz t' e' _) => cond (Nat.beq t' et && finT P 10 et)
    { h with next := h.next + 1, t := h.t.set b (.arr t (.set e i (putPart (e.get' i) e' j)) h.next) } h
  | _, _, _ => h
 | _ => h
def at1 (P : Program) (h : SHeap) (b : Nat) (i : E) (off : Nat) (t : TypeId) : SHeap × List E :=
 match h.get b with
 | some (.tree _ _ (some (i', off', st, _))) => cond (decide (i = i') && Nat.beq off off' && Nat.beq st t) (h, []) (open1 P (settle P 6 h b) b i off t)
 | _ => open1 P h b i off t
def open2 (P : Program) (h : SHeap) (b : Nat) (i : E) (t : TypeId) : SHeap × List E :=
 match h.get b with
 | some (.tree t' e (some (i', off', st, c))) => match P.underlying t' with
  | some (.slice et) => cond (Nat.beq t' t && Nat.beq st t && Nat.beq off' 0)
    ((h.new (innerObj P et (e.get' i) h.next)).set b (.tree2 t' et e i' c i h.next), .not (.eq i i') :: inb i e.len') (h, [])
  | _ => (h, [])
 | _ => (h, [])
def at2 (P : Program) (pol : Bool) (h : SHeap) (b : Nat) (i : E) (off : Nat) (t : TypeId) : SHeap × List E :=
 match h.get b with
 | some (.tree2 _ _ _ i1 _ i2 _) => cond ((decide (i = i1) || decide (i = i2)) && Nat.beq off 0) (h, []) (at1 P (settle P 6 h b) b i off t)
 | some (.tree _ _ (some (i', _, _, _))) => cond (pol && !decide (i = i') && Nat.beq off 0) (open2 P h b i t) (at1 P h b i off t)
 | _ => at1 P h b i off t
def isTree (h : SHeap) (b : Nat) : Bool :=
 match h.get b with
 | some (.tree ..) => true
 | some (.tree2 ..) => true
 | _ => false
def settleV (P : Program) (h : SHeap) : SV -> SHeap
 | .view b => settle P 6 h b
 | _ => h
def demoteV (P : Program) (h : SHeap) : SV -> SHeap
 | .view b => demote P h b
 | _ => h
def openA (P : Program) (h : SHeap) (b : Nat) (i : E) (t : TypeId) : SHeap × List E :=
 match h.get b with
 | some (.arr t' e _) => match P.underlying t with
  | some (.slice et) => cond (Nat.beq t t' && finT P 11 et) ({ h.new (.arr et .nil h.next) with next := h.next + 2, t := (h.new (.arr et .nil h.next)).t.set b (.arrH t et e i h.next) }, .isNil (e.get' i) :: inb i e.len') (h, [])
  | _ => (h, [])
 | _ => (h, [])
def atA (P : Program) (pol : Bool) (h : SHeap) (b : Nat) (i : E) (t : TypeId) : SHeap × List E :=
 match h.get b with
 | some (.arr ..) => cond pol (openA P h b i t) (h, [])
 | some (.arrH _ _ _ i' _) => cond pol (cond (decide (i = i')) (h, []) (openA P (closeA h b) b i t)) (closeA h b, [])
 | _ => (h, [])
def sprep (P : Program) (pol : Bool) (h : SHeap) (tm : Tr SV) (o : Oper) : SHeap × List E :=
 match o.op with
 | .load t a => match sEval tm a with
  | .addrE b i off => cond (isTree h b && isSliceT P t) (at2 P pol h b i off t) (cond (Nat.beq off 0) (atA P pol h b i t) (h, []))
  | _ => (h, [])
 | .store t a x => match sEval tm a with
  | .addrE b i off => cond (isTree h b) (cond (slicy P deep t)
    (match sEval tm x with
    | .view _ | .nils => at1 P (match h.get b with | some (.tree2 ..) => settle P 6 h b | _ => h) b i off t
    | _ => (demote P (settle P 6 h b) b, []))
    (settle P 6 h b, [])) (match h.get b with
     | some (.arrH _ _ _ i' _) => cond (decide (i = i') && Nat.beq off 0 && (match sEval tm x with | .view _ => true | _ => false)) (h, []) (closeA h b, [])
     | _ => (h, []))
  | _ => (h, [])
 | .slice _ x _ _ _ => (freeze1 (settleV P h (sEval tm x)) (sEval tm x), [])
 | .buildSlice _ _ parts => (settleL P h (parts.toList.flatMap fun p => (sEval tm p.2).cells.filterMap fun | .view b => some b | _ => none), [])
 | .call { callee := .builtin b, args, argTypes } => match b, args.toList with
  | .append, [s, x] =>
   let h1 := settleV P (settleV P h (sEval tm s)) (sEval tm x)
   match sEval tm s, sEval tm x with
   | .nils, _ => (h1, [])
   | .view a, .view c => match isTree h1 a, isTree h1 c with
    | true, false => (demote P h1 a, [])
    | false, true => (demote P h1 c, [])
    | _, _ => (h1, [])
   | x, y => (demoteV P (demoteV P h1 x) y, [])
  | .copy, [d, s] => (demoteV P (settleV P (settleV P h (sEval tm d)) (sEval tm s)) (sEval tm s), [])
  | _, _ => (h, [])
 | _ => (h, [])
def listE : List E -> E := fun l => l.foldl .snoc .emp
def partsE (P : Program) (h : SHeap) (et : TypeId) (s : Nat) : Nat -> List (Nat × SV) -> Option (List E)
 | _, [] => some []
 | j, (i, v) :: ps => match v with
  | .bad => none
  | v => cond (Nat.beq i j && Nat.beq v.cells.length s) (match valOf P h deep et v.cells, partsE P h et s (j + 1) ps with
   | some e, some l => some (e :: l)
   | _, _ => none) none
def ownVal (P : Program) (h : SHeap) : Nat -> TypeId -> List SV -> Option (E × List Nat)
 | 0, _, _ => none
 | d + 1, t, cs => cond (slicy P deep t) (match sizeT P t with
  | none => none
  | some n => match P.underlying t with
   | some (.slice et) => cond (Nat.beq n 1 && finT P d et) (match sizeT P et with
    | some (_ + 1) => (match cs with
     | .nils :: _ => some (.nil, [])
     | .view b :: _ => match wholeOf P h b with
      | some (t', e) => cond (Nat.beq t' et) (some (e, [b])) none
      | none => none
     | _ => none)
    | _ => none) none
   | some (.struct fields) => cond (decide (tight P fields.toList 0 = some n) && Nat.ble n cs.length) (fields.toList.foldl (fun r f => match r, ownVal P h d f.type (cs.drop f.offset) with
     | some x, some y => some (.snoc x.1 y.1, x.2 ++ y.2)
     | _, _ => none) (some (.emp, []))) none
   | _ => none) ((valOf P h (d + 1) t cs).map fun e => (e, []))
def partsO (P : Program) (h : SHeap) (et : TypeId) (s : Nat) : Nat -> List (Nat × SV) -> Option (List E × List Nat)
 | _, [] => some ([], [])
 | j, (i, v) :: ps => match v with
  | .bad => none
  | v => cond (Nat.beq i j && Nat.beq v.cells.length s) (match ownVal P h deep et v.cells, partsO P h et s (j + 1) ps with
   | some e, some l => some (e.1 :: l.1, e.2 ++ l.2)
   | _, _ => none) none
def kills (h : SHeap) (l : List Nat) : SHeap := l.foldl SHeap.kill h
def streeFresh (P : Program) (pol : Pol) (fn : FuncId) (h : SHeap) (tm : Tr SV) (o : Oper) : Option (SHeap × SV × List E) :=
 cond (wraps pol fn o.dst) (match o.op with
 | .buildSlice t len parts => match P.underlying t with
  | some (.slice et) => match sizeT P et, szero P et with
   | some s, some z =>
    let ps := parts.toList.map fun p => (p.1, sEval tm p.2)
    cond (Nat.beq z.cells.length s && Nat.blt 0 s && Nat.ble (len * s) 16777216 && Nat.beq ps.length len && z.cells.all SV.one)
     (match partsO P h et s 0 ps with
     | some (l, bs) => cond (distinctL bs) (some ((kills h bs).new (.tree et (listE l) none), .view h.next, [])) none
     | none => none) none
   | _, _ => none
  | _ => none
 | .makeSlice t l c => match P.underlying t with
  | some (.slice et) => match P.info? et, szero P et, sEval tm l, sEval tm c with
   | some i, some z, .int _ m, .int _ n =>
    cond (Nat.beq z.cells.length i.size && Nat.blt 0 i.size && Nat.blt 0 i.bytes && decide (m = n) && z.cells.all SV.one)
     (match ownVal P h deep et z.cells with
     | some (ze, []) => some (h.new (.tree et (.rep n ze) none), .view h.next, ask ((E.le' (.il 0) n).and' (E.le' n (.il (Int.ofNat (Nat.div 140737488355328 i.bytes))))))
     | _ => none) none
   | _, _, _, _ => none
  | _ => none
 | _ => none) none
def sfresh (P : Program) (h : SHeap) (tm : Tr SV) (o : Oper) : Option (SHeap × SV × List E) :=
 match o.op with
 | .alloc t => match szero P t with
  | some z => cond (z.cells.all SV.one) (some (h.new (.cells z.cells), .addr h.next 0, [])) none
  | none => none
 | .box _ x => match sEval tm x with
  | .bad => none
  | v => cond (v.cells.all SV.one) (some (h.new (.cells v.cells), .addr h.next 0, [])) none
 | .buildSlice t len parts => match P.underlying t with
  | some (.slice et) => match sizeT P et, szero P et with
   | some s, some z =>
    let ps := parts.toList.map fun p => (p.1, sEval tm p.2)
    let h1 := freezes h (ps.flatMap fun p => p.2.cells)
    cond (Nat.beq z.cells.length s && Nat.blt 0 s && Nat.ble (len * s) 16777216 && Nat.beq ps.length len && z.cells.all SV.one)
     (match partsE P h1 et s 0 ps with
     | some l => some (h1.new (.arr et (listE l) h1.next), .view h1.next, [])
     | none => none) none
   | _, _ => none
  | _ => none
 | .makeSlice t l c => match P.underlying t with
  | some (.slice et) => match P.info? et, szero P et, sEval tm l, sEval tm c with
   | some i, some z, .int _ m, .int _ n =>
    cond (Nat.beq z.cells.length i.size && Nat.blt 0 i.size && Nat.blt 0 i.bytes && decide (m = n) && z.cells.all SV.one)
     (match valOf P h deep et z.cells with
     | some ze => some (h.new (.arr et (.rep n ze) h.next), .view h.next, ask ((E.le' (.il 0) n).and' (E.le' n (.il (Int.ofNat (Nat.div 140737488355328 i.bytes))))))
     | none => none) none
   | _, _, _, _ => none
  | _ => none
 | _ => none
inductive SNext where
 | value (v : SV)
 | enter (f : FuncId) (args : List SV)
 | round (l : Nat)
 | defer (d : SDef)
 | recover
def setPart (P : Program) (et : TypeId) (e : E) (off : Nat) (t : TypeId) (x : E) : Option E :=
 cond (Nat.beq off 0 && Nat.beq t et) (some x) (match P.underlying et with
  | some (.struct fields) => match fieldAt fields.toList off 0 with
   | some (j, f) => cond (Nat.beq f.type t) (some (.set e (.il (Int.ofNat j)) x)) none
   | none => none
  | _ => none)
def sstore (P : Program) (h : SHeap) (t : TypeId) (a v : SV) : Option (SHeap × List E) :=
 match a with
 | .addr b off => match h.get b with
  | some (.cells cs) => match sizeT P t with
   | some s => cond (Nat.beq v.cells.length s && Nat.ble (off + s) cs.length && v.cells.all SV.one)
     (some (h.set b (.cells (spliceS cs off v.cells)), [])) none
   | none => none
  | _ => none
 | .addrE b i off =>
  let h1 := freezes h v.cells
  match h1.get b with
  | some (.arr et e _) => match sizeT P t with
   | some s => cond (Nat.beq v.cells.length s && Nat.blt 0 s && v.cells.all SV.one) (match valOf P h1 11 t v.cells with
    | some x => match setPart P et (e.get' i) off t x with
     | some y => some ({ h1 with next := h1.next + 1, t := h1.t.set b (.arr et (.set e i y) h1.next) }, inb i e.len')
     | none => none
    | none => none) none
   | none => none
  | _ => none
 | _ => none
def treeStore (P : Program) (h : SHeap) (t : TypeId) (a v : SV) : Option (SHeap × List E) :=
 match a with
 | .addrE b i off => match h.get b with
  | some (.tree et e hole) => match partAt P et off t with
   | some j => match hole with
    | none => cond (slicy P deep t) none (match sizeT P t with
     | some s => cond (Nat.beq v.cells.length s && Nat.blt 0 s && v.cells.all SV.one) (match valOf P h 11 t v.cells with
      | some x => some (h.set b (.tree et (.set e i (putPart (e.get' i) x j)) none), inb i e.len')
      | none => none) none
     | none => none)
    | some (i', off', st, _) => cond (decide (i = i') && Nat.beq off off' && Nat.beq st t) (match v, P.underlying t, sizeT P t with
     | .view c, some (.slice _), some 1 => some (h.set b (.tree et e (some (i, off, t, c))), inb i e.len')
     | .nils, some (.slice et'), some 1 => match sizeT P et' with
      | some (_ + 1) => some ((h.new (innerObj P et' .nil h.next)).set b (.tree et e (some (i, off, t, h.next))), inb i e.len')
      | _ => none
     | _, _, _ => none) none
   | none => none
  | some (.arrH et et' e i' _) => cond (decide (i = i') && Nat.beq off 0 && Nat.beq et t) (match v with
   | .view c => match h.get c with
    | some (.arr ..) => some (h.set b (.arrH et et' e i' c), inb i e.len')
    | _ => none
   | _ => none) none
  | _ => none
 | _ => none
def E.app' (a : E) : E -> E
 | .nil => a
 | .emp => a
 | .snoc b y => .snoc (E.app' a b) y
 | b => .app a b
def most (bytes : Nat) : Nat := Nat.div (Nat.div 140737488355328 bytes - 1024) 2
def sappend (P : Program) (h : SHeap) (st xt : TypeId) (s x : SV) : Option (SV × SHeap × List E) :=
 match P.underlying st, P.underlying xt with
 | some (.slice et), some (.slice xe) => match P.info? et, szero P et with
  | some i, some z =>
   cond (Nat.beq z.cells.length i.size && Nat.blt 0 i.size && Nat.blt 0 i.bytes && z.cells.all SV.one)
   (match (match x with | .nils => some (et, E.nil) | x => listOf h x) with
   | some (xe, ex) => cond (Nat.beq xe et) (match s with
    | .nils => some (.view h.next, h.new (.arr et (E.app' .nil ex) h.next), ask (E.le' ex.len' (.il (Int.ofNat (most i.bytes)))))
    | .view b => match h.get b with
     | some (.arr et' e _) => cond (Nat.beq et' et) (some (.view h.next, (h.kill b).new (.arr et (E.app' e ex) h.next), ask (E.le' (e.len'.add' ex.len') (.il (Int.ofNat (most i.bytes)))))) none
     | _ => none
    | _ => none) none
   | none => none) none
  | _, _ => none
 | _, _ => none
def treeAppend (P : Program) (h : SHeap) (st xt : TypeId) (s x : SV) : Option (SV × SHeap × List E) :=
 match P.underlying st, P.underlying xt, x with
 | some (.slice et), some (.slice _), .view c => match P.info? et, szero P et, h.get c with
  | some i, some z, some (.tree et' ex none) =>
   cond (Nat.beq z.cells.length i.size && Nat.blt 0 i.size && Nat.blt 0 i.bytes && z.cells.all SV.one && Nat.beq et' et)
   (match s with
    | .nils => some (.view h.next, (h.kill c).new (.tree et (E.app' .nil ex) none), ask (E.le' ex.len' (.il (Int.ofNat (most i.bytes)))))
    | .view b => match h.get b with
     | some (.tree et2 e none) => cond (Nat.beq et2 et && !Nat.beq b c) (some (.view h.next, ((h.kill c).kill b).new (.tree et (E.app' e ex) none), ask (E.le' (e.len'.add' ex.len') (.il (Int.ofNat (most i.bytes)))))) none
     | _ => none
    | _ => none) none
  | _, _, _ => none
 | _, _, _ => none
def scopy (P : Program) (h : SHeap) (dt : TypeId) (d s : SV) : Option (SV × SHeap × List E) :=
 match P.underlying dt with
 | some (.slice et) => match sizeT P et with
  | some sz => match listOf h s, d with
   | some (xe, ex), .view b => match h.get b with
    | some (.arr et' e _) => cond (Nat.beq et' et && Nat.beq xe et)
      (some (.int .i64 (.min ex.len' e.len'), { h with next := h.next + 1, t := h.t.set b (.arr et (.over e ex) h.next) }, ask (E.not (.isNil e)))) none
    | _ => none
   | _, _ => none
  | none => none
 | _ => none
def scall (P : Program) (f : SV) (args : List SV) : Option SNext :=
 match f with
 | .func f first captured => match P.funcs[f]? with
  | some fn => match fn.body with
   | some _ => some (.enter f (first ++ args ++ captured))
   | none => none
  | none => none
 | .yieldf l => some (.round l)
 | _ => none
def sheavy (P : Program) (h : SHeap) (tm : Tr SV) (o : Oper) : Option (SNext × SHeap × List E) :=
 match o.op with
 | .store t a x => match sstore P h t (sEval tm a) (sEval tm x) with
  | some r => some (.value .bad, r.1, r.2)
  | none => (treeStore P h t (sEval tm a) (sEval tm x)).map fun r => (.value .bad, r.1, r.2)
 | .call { callee := .builtin b, args, argTypes } => match b, args.toList, argTypes.toList with
  | .append, [s, x], [st, xt] => match sappend P h st xt (sEval tm s) (sEval tm x) with
   | some r => some (.value r.1, r.2)
   | none => (treeAppend P h st xt (sEval tm s) (sEval tm x)).map fun r => (.value r.1, r.2)
  | .copy, [d, s], t :: _ => (scopy P h t (sEval tm d) (sEval tm s)).map fun r => (.value r.1, r.2)
  | .recover, [], _ => some (.recover, h, [])
  | _, _, _ => none
 | .call { callee := .value f, args, .. } => (scall P (sEval tm f) (args.toList.map (sEval tm))).map fun n => (n, h, [])
 | .defer { callee := .value f, args, .. } => match sEval tm f with
  | .func f first captured => some (.defer { tgt := .func f, args := first ++ args.toList.map (sEval tm) ++ captured }, h, [])
  | _ => none
 | _ => none
end
end Go.Sym
