/- Texts of the claim: SymMach. -/
import Derived.Test.YtildjgdhdcoojaaDoorZ03
set_option linter.unusedVariables false
set_option linter.unusedSimpArgs false
namespace Go.Sym
open Go Go.Abs
noncomputable section
inductive Ev where
 | ask (e : E)
 | call (f : FuncId) (args : List E)
 | callO (f : FuncId) (args : List E)
structure Cfg where
 P : Program
 pl : Plans
 pol : Pol
 ctr : List Nat
 ctrO : List Nat
structure Out where
 m : SMach
 ev : List Ev
 ch : List Bool
def asks (l : List E) : List Ev := l.map .ask
inductive Guard where
 | known (b : Bool)
 | open_ (d : Tmp) (e : E) (want : Bool)
def sguard (ops : Array Oper) (tm : Tr SV) (o : Oper) : Option Guard :=
 match o.guard with
 | none => some (.known true)
 | some (j, want) => match ops[j]? with
  | some g => match g.dst with
   | some d => match stGet tm d with
    | .bool (.bl b) => some (.known (b == want))
    | .bool e => some (.open_ d e want)
    | .tuple [] => some (.known false)
    | _ => none
   | none => none
  | none => none
def sagain (C : Cfg) (fn : FuncId) (h : SHeap) (tm : Tr SV) (ops : Array Oper) : List Nat -> Option (List E)
 | [] => some []
 | i :: l => match ops[i]? with
  | some o => match o.dst with
   | some d => match sguard ops tm o with
    | some (.known true) => match slight C.P C.pol fn h tm o, sagain C fn h tm ops l with
     | some (v, c), some r => cond (SV.beq 7 v (stGet tm d)) (some (c ++ r)) none
     | _, _ => none
    | some (.known false) => sagain C fn h tm ops l
    | _ => none
   | none => none
  | none => none
def sfinish (C : Cfg) (h : SHeap) (fr : SFrame) (v : SV) : Option (SFrame × List E) :=
 match fr.todo with
 | .reg ops i (o :: rest) :: k => match stSet fr.nt fr.tm o.dst v with
  | some tm => some ({ fr with tm, todo := .reg ops (i + 1) rest :: k }, [])
  | none => none
 | .dreg ops ((i, chk) :: rest) :: k => match ops[i]? with
  | some o => match stSet fr.nt fr.tm o.dst v with
   | some tm => (sagain C fr.fn h tm ops chk).map fun c => ({ fr with tm, todo := .dreg ops rest :: k }, c)
   | none => none
  | none => none
 | .inRangeFunc l :: k => some ({ fr with todo := .endRangeFunc l :: k }, [])
 | _ => none
def senter (P : Program) (f : FuncId) (args : List SV) (deferred : Bool) : Option SFrame :=
 match P.funcs[f]? with
 | some fn => match fn.body with
  | some c => cond (Nat.ble args.length fn.ntmps) (some { fn := f, nt := fn.ntmps, tm := setAll .nil 0 args, todo := [.code c], defers := [], mode := .run, deferred, roundOf := none }) none
  | none => none
 | none => none
where
 setAll : Tr SV -> Nat -> List SV -> Tr SV
  | t, _, [] => t
  | t, i, v :: vs => setAll (t.set i v) (i + 1) vs
def sgetLoop (h : SHeap) (l : Nat) : Option SLoop :=
 match h.get l with
 | some (.loop r) => some r
 | _ => none
def sroundFrame (l : Nat) (r : SLoop) (args : List SV) : Option SFrame :=
 cond (Nat.beq args.length r.params.size)
  (match sets r.tm r.params.toList args with
  | some tm => some { fn := r.fn, nt := r.nt, tm, todo := [.code r.assign, .beginRound, .code r.body], defers := [], mode := .run, deferred := false, roundOf := some l }
  | none => none) none
where
 sets : Tr SV -> List Tmp -> List SV -> Option (Tr SV)
  | t, [], _ => some t
  | t, _ :: _, [] => some t
  | t, p :: ps, a :: as_ => cond (Nat.blt p r.nt) (sets (t.set p a) ps as_) none
def packed? (P : Program) (t : TypeId) (v : SV) : Bool :=
 match isAggT P t with
 | some true => match v with
  | .agg cs => decide (sizeT P t = some cs.length)
  | _ => false
 | some false => v.one && decide (sizeT P t = some 1)
 | none => false
def argE (P : Program) (h : SHeap) (lend : Bool) (t : TypeId) (v : SV) : Option E :=
 cond (packed? P t v) (match lend, v with
  | true, .view b => match h.get b with
   | some (.arr et e _) => match P.underlying t with
    | some (.slice et') => cond (Nat.beq et et' && finT P 11 et) (some e) none
    | _ => none
   | _ => valOf P h deep t [v]
  | _, v => valOf P h deep t v.cells) none
def argsE (P : Program) (h : SHeap) (lend : Bool) : List TypeId -> List SV -> Option (List E)
 | [], [] => some []
 | t :: ts, v :: vs => match argE P h lend t v, argsE P h lend ts vs with
  | some e, some l => some (e :: l)
  | _, _ => none
 | _, _ => none
def packS (P : Program) (t : TypeId) (cs : List SV) : Option SV :=
 match isAggT P t with
 | some true => some (.agg cs)
 | some false => match cs with
  | [c] => some c
  | _ => none
 | none => none
def resultsOf (P : Program) (n : Nat) (e : E) : Nat -> Nat -> List TypeId -> Option (List SV)
 | _, _, [] => some []
 | j, off, t :: ts => match cellsOf P (PA.cell n) deep t (e.get' (.il (Int.ofNat j))) off, sizeT P t with
  | some cs, some s => match packS P t cs, resultsOf P n e (j + 1) (off + s) ts with
   | some v, some l => some (v :: l)
   | _, _ => none
  | _, _ => none
def resultOf (P : Program) (n : Nat) (e : E) (ts : List TypeId) : Option SV :=
 match ts with
 | [t] => match cellsOf P (PA.cell n) deep t e 0 with
  | some cs => packS P t cs
  | none => none
 | ts => (resultsOf P n e 0 0 ts).map .tuple
def viewsOf (l : List SV) : List SV := l.flatMap SV.cells
def innerViews (l : List SV) : List SV := l.flatMap fun
 | .view _ => []
 | v => v.cells
def scontract (P : Program) (h : SHeap) (f : FuncId) (args : List SV) : Option (SHeap × List E × SV) :=
 match P.funcs[f]? with
 | some fn =>
  let sl := fn.resultTypes.toList.any (slicy P deep)
  let h1 := freezes (settleFor P h (cond sl (viewsOf args) (innerViews args))) (cond sl (viewsOf args) (innerViews args))
  match argsE P h1 (!sl) fn.params.toList args, resultOf P h1.ats (.vv h1.nv) fn.resultTypes.toList with
  | some es, some v => some ({ h1 with ats := h1.ats + 1, nv := h1.nv + 1 }, es, v)
  | _, _ => none
 | none => none
def ownRes (P : Program) : Nat -> TypeId -> E -> SHeap -> Option (SHeap × List SV)
 | 0, _, _, _ => none
 | d + 1, t, e, h => cond (slicy P deep t) (match P.underlying t with
  | some (.slice et) => match sizeT P et with
   | some (_ + 1) => cond (finT P 11 et) (some (h.new (innerObj P et e h.next), [.view h.next])) none
   | _ => none
  | some (.struct fields) => fields.toList.zipIdx.foldl (fun r f => match r with
    | some r => match ownRes P d f.1.type (e.get' (.il (Int.ofNat f.2))) r.1 with
     | some q => some (q.1, r.2 ++ q.2)
     | none => none
    | none => none) (some (h, []))
  | _ => none)
  (match cellsOf P (fun o => .cell 0 o) deep t e 0 with
  | some cs => cond (cs.all fun | .bool _ | .int _ _ | .str _ => true | _ => false) (some (h, cs)) none
  | none => none)
def ownResults (P : Program) (e : E) : Nat -> List TypeId -> SHeap -> Option (SHeap × List SV)
 | _, [], h => some (h, [])
 | j, t :: ts, h => match ownRes P deep t (e.get' (.il (Int.ofNat j))) h with
  | some r => match packS P t r.2, ownResults P e (j + 1) ts r.1 with
   | some v, some q => some (q.1, v :: q.2)
   | _, _ => none
  | none => none
def scontractO (P : Program) (h : SHeap) (f : FuncId) (args : List SV) : Option (SHeap × List E × SV) :=
 match P.funcs[f]? with
 | some fn =>
  let h1 := settleFor P h (viewsOf args)
  match argsE P (freezes h1 (viewsOf args)) false fn.params.toList args with
  | some es => match fn.resultTypes.toList with
   | [t] => match ownRes P deep t (.vv h1.nv) { h1 with nv := h1.nv + 1 } with
    | some r => (packS P t r.2).map fun v => (r.1, es, v)
    | none => none
   | ts => (ownResults P (.vv h1.nv) 0 ts { h1 with nv := h1.nv + 1 }).map fun r => (r.1, es, .tuple r.2)
  | none => none
 | none => none
def svalue (C : Cfg) (fr : SFrame) (callers : List SFrame) (h : SHeap) (v : SV) (ev : List Ev) (ch : List Bool) : Option Out :=
 (sfinish C h fr v).map fun r => { m := { fr := r.1, callers, h }, ev := ev ++ asks r.2, ch }
def sapply (C : Cfg) (fr : SFrame) (callers : List SFrame) (n : SNext) (h : SHeap) (args : List SV) (ev : List Ev) (ch : List Bool) : Option Out :=
 match n with
 | .value v => svalue C fr callers h v ev ch
 | .enter f as_ => cond (C.ctr.contains f)
   (match scontract C.P h f as_ with
   | some (h1, es, v) => svalue C fr callers h1 v (ev ++ [.call f es]) ch
   | none => none)
   (cond (C.ctrO.contains f)
   (match scontractO C.P h f as_ with
   | some (h1, es, v) => svalue C fr callers h1 v (ev ++ [.callO f es]) ch
   | none => none)
   (match senter C.P f as_ false with
   | some g => some { m := { fr := g, callers := fr :: callers, h }, ev, ch }
   | none => none))
 | .round l => match sgetLoop h l with
  | some r => match C.P.funcs[r.fn]? with
   | some _ => match sroundFrame l r args with
    | some g => some { m := { fr := g, callers := fr :: callers, h }, ev, ch }
    | none => none
   | none => none
  | none => none
 | .defer d => match fr.roundOf with
  | none => svalue C { fr with defers := d :: fr.defers } callers h .bad ev ch
  | some _ => none
 | .recover => match fr.roundOf with
  | none => match fr.deferred, callers with
   | true, _ :: _ => svalue C fr callers h .nili ev ch
   | _, _ => none
  | some _ => none
def sdo1 (C : Cfg) (fr : SFrame) (callers : List SFrame) (h : SHeap) (o : Oper) (ev : List Ev) (ch : List Bool) : Option Out :=
 match slight C.P C.pol fr.fn h fr.tm o with
 | some (v, c) => svalue C fr callers h v (ev ++ asks c) ch
 | none => match (match streeFresh C.P C.pol fr.fn h fr.tm o with | some r => some r | none => sfresh C.P h fr.tm o) with
  | some (h1, v, c) => svalue C fr callers h1 v (ev ++ asks c) ch
  | none => match sheavy C.P h fr.tm o with
   | some (n, h1, c) => sapply C fr callers n h1 (match o.op with | .call c => c.args.toList.map (sEval fr.tm) | _ => []) (ev ++ asks c) ch
   | none => none
def sdo (C : Cfg) (fr : SFrame) (callers : List SFrame) (h : SHeap) (o : Oper) (ev : List Ev) (ch : List Bool) : Option Out :=
 match sprep C.P (wraps C.pol fr.fn o.dst) h fr.tm o with
 | (h1, c) => sdo1 C fr callers h1 o (ev ++ asks c) ch
def ixSplit (e : E) : Nat -> Nat -> List Bool -> Option (Nat × List E × List Bool)
 | 0, _, _ => none
 | n + 1, k, ch => match ch with
  | true :: ch => some (k, [.eq e (.il (Int.ofNat k))], ch)
  | false :: ch => (ixSplit e n (k + 1) ch).map fun r => (r.1, .not (.eq e (.il (Int.ofNat k))) :: r.2.1, r.2.2)
  | [] => none
def ixOf (P : Program) (tm : Tr SV) (o : Oper) : Option (Tmp × IntKind × E × Nat) :=
 match o.op with
 | .index t _ (.tmp d) | .indexAddr t _ (.tmp d) => match P.underlying t, stGet tm d with
  | some (.array n _), .int k e => match e with
   | .il _ => none
   | e => cond (Nat.ble n 12) (some (d, k, e, n)) none
  | _, _ => none
 | _ => none
def soper (C : Cfg) (fr : SFrame) (callers : List SFrame) (h : SHeap) (ops : Array Oper) (o : Oper) (ch : List Bool) : Option Out :=
 match sguard ops fr.tm o with
 | some (.known true) => match ixOf C.P fr.tm o with
  | some (d, k, e, n) => match ixSplit e n 0 ch with
   | some (j, cs, ch) => some { m := { fr := { fr with tm := fr.tm.set d (.int k (.il (Int.ofNat j))) }, callers, h }, ev := asks cs, ch }
   | none => none
  | none => sdo C fr callers h o [] ch
 | some (.known false) => svalue C fr callers h (.tuple []) [] ch
 | some (.open_ d e want) => match ch with
  | c :: ch => cond (c == want) (sdo C { fr with tm := fr.tm.set d (.bool (.bl c)) } callers h o [.ask (cond c e e.not')] ch)
    (svalue C { fr with tm := fr.tm.set d (.bool (.bl c)) } callers h (.tuple []) [.ask (cond c e e.not')] ch)
  | [] => none
 | none => none
def sreturn (C : Cfg) (fr : SFrame) (callers : List SFrame) (v : SV) (h : SHeap) (ch : List Bool) : Option Out :=
 match callers with
 | [] => none
 | c :: rest => cond fr.deferred
   (match c.mode with
    | .run => none
    | .returning => some { m := { fr := c, callers := rest, h }, ev := [], ch })
   (match c.mode with
    | .run => svalue C c rest h v [] ch
    | _ => none)
def sleave (C : Cfg) (fr : SFrame) (callers : List SFrame) (h : SHeap) (jump : Option Code) (ch : List Bool) : Option Out :=
 match fr.roundOf with
 | none => match jump with
  | none | some .ret => some { m := { fr := { fr with mode := .returning }, callers, h }, ev := [], ch }
  | _ => none
 | some l => match sgetLoop h l with
  | some r => cond fr.deferred none (sreturn C fr callers (.bool (.bl jump.isNone)) (h.set l (.loop { r with state := if jump.isNone then .ready else .done, pending := jump })) ch)
  | none => none
def sresults (P : Program) (h : SHeap) (tm : Tr SV) : List ResultVar -> Option (List SV × List E)
 | [] => some ([], [])
 | .tmp t :: l => (sresults P h tm l).map fun r => (stGet tm t :: r.1, r.2)
 | .cell a t :: l => match sload P h t (stGet tm a), sresults P h tm l with
  | some (v, c), some r => some (v :: r.1, c ++ r.2)
  | _, _ => none
def sexec (C : Cfg) (fr : SFrame) (callers : List SFrame) (h : SHeap) (ch : List Bool) : Option Out :=
 let to (todo : List AItem) : Option Out := some { m := { fr := { fr with todo }, callers, h }, ev := [], ch }
 match fr.todo with
 | [] => sleave C fr callers h none ch
 | .code c :: k => match c with
  | .ret => sleave C fr callers h (some .ret) ch
  | .skip | .label _ => to k
  | .seq a b => to (.code a :: .code b :: k)
  | .cond c thn els => match sEval fr.tm c with
   | .bool (.bl b) => to (.code (cond b thn els) :: k)
   | .bool e => match ch with
    | b :: ch => some { m := { fr := { fr with todo := .code (cond b thn els) :: k }, callers, h }, ev := [.ask (cond b e e.not')], ch }
    | [] => none
   | _ => none
  | .block id body => to (.code body :: .inBlock id :: k)
  | .loop body => to (.code body :: .inLoop body :: k)
  | .scope body => to (.code body :: .inScope body :: k)
  | .exit id => match aexitTo id k with
   | some k => to k
   | none => sleave C fr callers h (some (.exit id)) ch
  | .region _ ops false => to (.reg ops 0 ops.toList :: k)
  | .region id ops true => match findA fr.fn C.pl with
   | some l => match findA id l with
    | some p => cond (planOk ops p) (to (.dreg ops p :: k)) none
    | none => none
   | none => none
  | .rangeFunc f params assign body => match fr.roundOf with
   | none =>
    let h1 := h.new (.deferred (some []))
    let l := h1.next
    let h2 := h1.new (.loop { state := .ready, pending := none, fn := fr.fn, nt := fr.nt, tm := fr.tm, params, assign, body, defers := h.next })
    match scall C.P (sEval fr.tm f) [.yieldf l] with
    | some n => sapply C { fr with todo := .inRangeFunc l :: k, defers := { tgt := .collected h.next, args := [] } :: fr.defers } callers n h2 [.yieldf l] [] ch
    | none => none
   | some outer => match sgetLoop h outer with
    | some r =>
     let l := h.next
     let h2 := h.new (.loop { state := .ready, pending := none, fn := fr.fn, nt := fr.nt, tm := fr.tm, params, assign, body, defers := r.defers })
     match scall C.P (sEval fr.tm f) [.yieldf l] with
     | some n => sapply C { fr with todo := .inRangeFunc l :: k } callers n h2 [.yieldf l] [] ch
     | none => none
    | none => none
  | _ => none
 | .inBlock _ :: k => to k
 | .inScope _ :: k => to k
 | .inLoop body :: k => to (.code body :: .inLoop body :: k)
 | .reg _ _ [] :: k => to k
 | .reg ops _ (o :: _) :: _ => soper C fr callers h ops o ch
 | .dreg _ [] :: k => to k
 | .dreg ops ((i, _) :: _) :: _ => match ops[i]? with
  | some o => soper C fr callers h ops o ch
  | none => none
 | .inRangeFunc _ :: _ => none
 | .beginRound :: k => match fr.roundOf with
  | some l => match sgetLoop h l with
   | some r => match r.state with
    | .ready => some { m := { fr := { fr with todo := k }, callers, h := h.set l (.loop { r with state := .busy }) }, ev := [], ch }
    | _ => none
   | none => none
  | none => none
 | .endRangeFunc l :: k => match sgetLoop h l with
  | some r => match r.state with
   | .busy => none
   | _ => some { m := { fr := { fr with todo := match r.pending with | some c => .code c :: k | none => k }, callers, h := h.set l (.loop { r with state := .exhausted }) }, ev := [], ch }
  | none => none
def sunwind (C : Cfg) (fr : SFrame) (callers : List SFrame) (h : SHeap) (ch : List Bool) : Option Out :=
 match fr.defers with
 | { tgt := .collected r, .. } :: ds => match h.get r with
  | some (.deferred (some calls)) => some { m := { fr := { fr with defers := calls ++ ds }, callers, h := h.set r (.deferred none) }, ev := [], ch }
  | _ => none
 | { tgt := .func f, args } :: ds => match senter C.P f args true with
  | some g => some { m := { fr := g, callers := { fr with defers := ds } :: callers, h }, ev := [], ch }
  | none => none
 | [] => match C.P.funcs[fr.fn]? with
  | some fn => match sresults C.P h fr.tm fn.results.toList with
   | some ([v], c) => (sreturn C fr callers v h ch).map fun o => { o with ev := asks c ++ o.ev }
   | some (vs, c) => (sreturn C fr callers (.tuple vs) h ch).map fun o => { o with ev := asks c ++ o.ev }
   | none => none
  | none => none
def sstep (C : Cfg) (m : SMach) (ch : List Bool) : Option Out :=
 match m.fr.mode with
 | .run => sexec C m.fr m.callers m.h ch
 | .returning => sunwind C m.fr m.callers m.h ch
def srun (C : Cfg) : Nat -> SMach -> List Bool -> List Ev -> Option (SMach × List Ev × List Bool)
 | 0, m, ch, ev => some (m, ev, ch)
 | n + 1, m, ch, ev => match sstep C m ch with
  | some o => srun C n o.m o.ch (ev ++ o.ev)
  | none => none
end
end Go.Sym
