/- Texts of the claim: SymMach. -/
import Derived.Test.YtildjgdhdcoojaaDoorZ03
set_option linter.unusedVariables false
set_option linter.unusedSimpArgs false
namespace Go.Sym
open Go Go.a9
noncomputable section
inductive Ev where
 | ask (e : E)
 | call (f : FuncId) (args : List E)
 | dU (f : FuncId) (args : List E)
structure dj where
 P : Program
 pl : fR
 hJ : DM
 EI : List Nat
 DH : List Nat
structure Out where
 m : au
 ev : List Ev
 ch : List Bool
def asks (l : List E) : List Ev := l.map .ask
inductive Guard where
 | known (b : Bool)
 | open_ (d : Tmp) (e : E) (want : Bool)
def oY (ops : Array Oper) (tm : Tr SV) (o : Oper) : Option Guard :=
 match o.guard with
 | none => some (.known true)
 | some (j, want) => match ops[j]? with
  | some g => match g.dst with
   | some d => match mM tm d with
    | .bool (.bl b) => some (.known (b == want))
    | .bool e => some (.open_ d e want)
    | .tuple [] => some (.known false)
    | _ => none
   | none => none
  | none => none
def sf (C : dj) (fn : FuncId) (h : ae) (tm : Tr SV) (ops : Array Oper) : List Nat -> Option (List E)
 | [] => some []
 | i :: l => match ops[i]? with
  | some o => match o.dst with
   | some d => match oY ops tm o with
    | some (.known true) => match ve C.P C.hJ fn h tm o, sf C fn h tm ops l with
     | some (v, c), some r => cond (SV.beq 7 v (mM tm d)) (some (c ++ r)) none
     | _, _ => none
    | some (.known false) => sf C fn h tm ops l
    | _ => none
   | none => none
  | none => none
def vf (C : dj) (h : ae) (fr : aT) (v : SV) : Option (aT × List E) :=
 match fr.todo with
 | .kP ops i (o :: rest) :: k => match zH fr.nt fr.tm o.dst v with
  | some tm => some ({ fr with tm, todo := .kP ops (i + 1) rest :: k }, [])
  | none => none
 | .cU ops ((i, chk) :: rest) :: k => match ops[i]? with
  | some o => match zH fr.nt fr.tm o.dst v with
   | some tm => (sf C fr.fn h tm ops chk).map fun c => ({ fr with tm, todo := .cU ops rest :: k }, c)
   | none => none
  | none => none
 | .inRangeFunc l :: k => some ({ fr with todo := .endRangeFunc l :: k }, [])
 | _ => none
def nm (P : Program) (f : FuncId) (args : List SV) (deferred : Bool) : Option aT :=
 match P.funcs[f]? with
 | some fn => match fn.body with
  | some c => cond (Nat.ble args.length fn.ntmps) (some { fn := f, nt := fn.ntmps, tm := fc .nil 0 args, todo := [.code c], defers := [], mode := .run, deferred, roundOf := none }) none
  | none => none
 | none => none
where
 fc : Tr SV -> Nat -> List SV -> Tr SV
  | t, _, [] => t
  | t, i, v :: vs => fc (t.set i v) (i + 1) vs
def iK (h : ae) (l : Nat) : Option mg :=
 match h.get l with
 | some (.loop r) => some r
 | _ => none
def gS (l : Nat) (r : mg) (args : List SV) : Option aT :=
 cond (Nat.beq args.length r.params.size)
  (match o7 r.tm r.params.toList args with
  | some tm => some { fn := r.fn, nt := r.nt, tm, todo := [.code r.assign, .beginRound, .code r.body], defers := [], mode := .run, deferred := false, roundOf := some l }
  | none => none) none
where
 o7 : Tr SV -> List Tmp -> List SV -> Option (Tr SV)
  | t, [], _ => some t
  | t, _ :: _, [] => some t
  | t, p :: ps, a :: as_ => cond (Nat.blt p r.nt) (o7 (t.set p a) ps as_) none
def oh (P : Program) (t : TypeId) (v : SV) : Bool :=
 match bB P t with
 | some true => match v with
  | .agg cs => decide (aA P t = some cs.length)
  | _ => false
 | some false => v.one && decide (aA P t = some 1)
 | none => false
def C0 (P : Program) (h : ae) (lend : Bool) (t : TypeId) (v : SV) : Option E :=
 cond (oh P t v) (match lend, v with
  | true, .view b => match h.get b with
   | some (.arr et e _) => match P.underlying t with
    | some (.slice et') => cond (Nat.beq et et' && fL P 11 et) (some e) none
    | _ => none
   | _ => valOf P h deep t [v]
  | _, v => valOf P h deep t v.cells) none
def uS (P : Program) (h : ae) (lend : Bool) : List TypeId -> List SV -> Option (List E)
 | [], [] => some []
 | t :: ts, v :: vs => match C0 P h lend t v, uS P h lend ts vs with
  | some e, some l => some (e :: l)
  | _, _ => none
 | _, _ => none
def sC (P : Program) (t : TypeId) (cs : List SV) : Option SV :=
 match bB P t with
 | some true => some (.agg cs)
 | some false => match cs with
  | [c] => some c
  | _ => none
 | none => none
def mw (P : Program) (n : Nat) (e : E) : Nat -> Nat -> List TypeId -> Option (List SV)
 | _, _, [] => some []
 | j, off, t :: ts => match cellsOf P (PA.cell n) deep t (e.get' (.il (Int.ofNat j))) off, aA P t with
  | some cs, some s => match sC P t cs, mw P n e (j + 1) (off + s) ts with
   | some v, some l => some (v :: l)
   | _, _ => none
  | _, _ => none
def sk (P : Program) (n : Nat) (e : E) (ts : List TypeId) : Option SV :=
 match ts with
 | [t] => match cellsOf P (PA.cell n) deep t e 0 with
  | some cs => sC P t cs
  | none => none
 | ts => (mw P n e 0 0 ts).map .tuple
def eT (l : List SV) : List SV := l.flatMap SV.cells
def nG (l : List SV) : List SV := l.flatMap fun
 | .view _ => []
 | v => v.cells
def o9 (P : Program) (h : ae) (f : FuncId) (args : List SV) : Option (ae × List E × SV) :=
 match P.funcs[f]? with
 | some fn =>
  let sl := fn.resultTypes.toList.any (bA P deep)
  let h1 := dG (eo P h (cond sl (eT args) (nG args))) (cond sl (eT args) (nG args))
  match uS P h1 (!sl) fn.params.toList args, sk P h1.iz (.vv h1.nv) fn.resultTypes.toList with
  | some es, some v => some ({ h1 with iz := h1.iz + 1, nv := h1.nv + 1 }, es, v)
  | _, _ => none
 | none => none
def nD (P : Program) : Nat -> TypeId -> E -> ae -> Option (ae × List SV)
 | 0, _, _, _ => none
 | d + 1, t, e, h => cond (bA P deep t) (match P.underlying t with
  | some (.slice et) => match aA P et with
   | some (_ + 1) => cond (fL P 11 et) (some (h.new (bh P et e h.next), [.view h.next])) none
   | _ => none
  | some (.struct fields) => fields.toList.zipIdx.foldl (fun r f => match r with
    | some r => match nD P d f.1.type (e.get' (.il (Int.ofNat f.2))) r.1 with
     | some q => some (q.1, r.2 ++ q.2)
     | none => none
    | none => none) (some (h, []))
  | _ => none)
  (match cellsOf P (fun o => .cell 0 o) deep t e 0 with
  | some cs => cond (cs.all fun | .bool _ | .int _ _ | .str _ => true | _ => false) (some (h, cs)) none
  | none => none)
def km (P : Program) (e : E) : Nat -> List TypeId -> ae -> Option (ae × List SV)
 | _, [], h => some (h, [])
 | j, t :: ts, h => match nD P deep t (e.get' (.il (Int.ofNat j))) h with
  | some r => match sC P t r.2, km P e (j + 1) ts r.1 with
   | some v, some q => some (q.1, v :: q.2)
   | _, _ => none
  | none => none
def np (P : Program) (h : ae) (f : FuncId) (args : List SV) : Option (ae × List E × SV) :=
 match P.funcs[f]? with
 | some fn =>
  let h1 := eo P h (eT args)
  match uS P (dG h1 (eT args)) false fn.params.toList args with
  | some es => match fn.resultTypes.toList with
   | [t] => match nD P deep t (.vv h1.nv) { h1 with nv := h1.nv + 1 } with
    | some r => (sC P t r.2).map fun v => (r.1, es, v)
    | none => none
   | ts => (km P (.vv h1.nv) 0 ts { h1 with nv := h1.nv + 1 }).map fun r => (r.1, es, .tuple r.2)
  | none => none
 | none => none
def du (C : dj) (fr : aT) (callers : List aT) (h : ae) (v : SV) (ev : List Ev) (ch : List Bool) : Option Out :=
 (vf C h fr v).map fun r => { m := { fr := r.1, callers, h }, ev := ev ++ asks r.2, ch }
def nr (C : dj) (fr : aT) (callers : List aT) (n : oQ) (h : ae) (args : List SV) (ev : List Ev) (ch : List Bool) : Option Out :=
 match n with
 | .value v => du C fr callers h v ev ch
 | .enter f as_ => cond (C.EI.contains f)
   (match o9 C.P h f as_ with
   | some (h1, es, v) => du C fr callers h1 v (ev ++ [.call f es]) ch
   | none => none)
   (cond (C.DH.contains f)
   (match np C.P h f as_ with
   | some (h1, es, v) => du C fr callers h1 v (ev ++ [.dU f es]) ch
   | none => none)
   (match nm C.P f as_ false with
   | some g => some { m := { fr := g, callers := fr :: callers, h }, ev, ch }
   | none => none))
 | .round l => match iK h l with
  | some r => match C.P.funcs[r.fn]? with
   | some _ => match gS l r args with
    | some g => some { m := { fr := g, callers := fr :: callers, h }, ev, ch }
    | none => none
   | none => none
  | none => none
 | .defer d => match fr.roundOf with
  | none => du C { fr with defers := d :: fr.defers } callers h .bad ev ch
  | some _ => none
 | .recover => match fr.roundOf with
  | none => match fr.deferred, callers with
   | true, _ :: _ => du C fr callers h .cW ev ch
   | _, _ => none
  | some _ => none
def Bn (C : dj) (fr : aT) (callers : List aT) (h : ae) (o : Oper) (ev : List Ev) (ch : List Bool) : Option Out :=
 match ve C.P C.hJ fr.fn h fr.tm o with
 | some (v, c) => du C fr callers h v (ev ++ asks c) ch
 | none => match (match iI C.P C.hJ fr.fn h fr.tm o with | some r => some r | none => sc C.P h fr.tm o) with
  | some (h1, v, c) => du C fr callers h1 v (ev ++ asks c) ch
  | none => match sa C.P h fr.tm o with
   | some (n, h1, c) => nr C fr callers n h1 (match o.op with | .call c => c.args.toList.map (aU fr.tm) | _ => []) (ev ++ asks c) ch
   | none => none
def DY (C : dj) (fr : aT) (callers : List aT) (h : ae) (o : Oper) (ev : List Ev) (ch : List Bool) : Option Out :=
 match rV C.P (rJ C.hJ fr.fn o.dst) h fr.tm o with
 | (h1, c) => Bn C fr callers h1 o (ev ++ asks c) ch
def rC (e : E) : Nat -> Nat -> List Bool -> Option (Nat × List E × List Bool)
 | 0, _, _ => none
 | n + 1, k, ch => match ch with
  | true :: ch => some (k, [.eq e (.il (Int.ofNat k))], ch)
  | false :: ch => (rC e n (k + 1) ch).map fun r => (r.1, .not (.eq e (.il (Int.ofNat k))) :: r.2.1, r.2.2)
  | [] => none
def DB (P : Program) (tm : Tr SV) (o : Oper) : Option (Tmp × IntKind × E × Nat) :=
 match o.op with
 | .index t _ (.tmp d) | .indexAddr t _ (.tmp d) => match P.underlying t, mM tm d with
  | some (.array n _), .int k e => match e with
   | .il _ => none
   | e => cond (Nat.ble n 12) (some (d, k, e, n)) none
  | _, _ => none
 | _ => none
def zI (C : dj) (fr : aT) (callers : List aT) (h : ae) (ops : Array Oper) (o : Oper) (ch : List Bool) : Option Out :=
 match oY ops fr.tm o with
 | some (.known true) => match DB C.P fr.tm o with
  | some (d, k, e, n) => match rC e n 0 ch with
   | some (j, cs, ch) => some { m := { fr := { fr with tm := fr.tm.set d (.int k (.il (Int.ofNat j))) }, callers, h }, ev := asks cs, ch }
   | none => none
  | none => DY C fr callers h o [] ch
 | some (.known false) => du C fr callers h (.tuple []) [] ch
 | some (.open_ d e want) => match ch with
  | c :: ch => cond (c == want) (DY C { fr with tm := fr.tm.set d (.bool (.bl c)) } callers h o [.ask (cond c e e.not')] ch)
    (du C { fr with tm := fr.tm.set d (.bool (.bl c)) } callers h (.tuple []) [.ask (cond c e e.not')] ch)
  | [] => none
 | none => none
def mn (C : dj) (fr : aT) (callers : List aT) (v : SV) (h : ae) (ch : List Bool) : Option Out :=
 match callers with
 | [] => none
 | c :: rest => cond fr.deferred
   (match c.mode with
    | .run => none
    | .returning => some { m := { fr := c, callers := rest, h }, ev := [], ch })
   (match c.mode with
    | .run => du C c rest h v [] ch
    | _ => none)
def rZ (C : dj) (fr : aT) (callers : List aT) (h : ae) (jump : Option Code) (ch : List Bool) : Option Out :=
 match fr.roundOf with
 | none => match jump with
  | none | some .ret => some { m := { fr := { fr with mode := .returning }, callers, h }, ev := [], ch }
  | _ => none
 | some l => match iK h l with
  | some r => cond fr.deferred none (mn C fr callers (.bool (.bl jump.isNone)) (h.set l (.loop { r with state := if jump.isNone then .ready else .done, pending := jump })) ch)
  | none => none
def gU (P : Program) (h : ae) (tm : Tr SV) : List ResultVar -> Option (List SV × List E)
 | [] => some ([], [])
 | .tmp t :: l => (gU P h tm l).map fun r => (mM tm t :: r.1, r.2)
 | .cell a t :: l => match zK P h t (mM tm a), gU P h tm l with
  | some (v, c), some r => some (v :: r.1, c ++ r.2)
  | _, _ => none
def Bl (C : dj) (fr : aT) (callers : List aT) (h : ae) (ch : List Bool) : Option Out :=
 let to (todo : List bu) : Option Out := some { m := { fr := { fr with todo }, callers, h }, ev := [], ch }
 match fr.todo with
 | [] => rZ C fr callers h none ch
 | .code c :: k => match c with
  | .ret => rZ C fr callers h (some .ret) ch
  | .skip | .label _ => to k
  | .seq a b => to (.code a :: .code b :: k)
  | .cond c thn bx => match aU fr.tm c with
   | .bool (.bl b) => to (.code (cond b thn bx) :: k)
   | .bool e => match ch with
    | b :: ch => some { m := { fr := { fr with todo := .code (cond b thn bx) :: k }, callers, h }, ev := [.ask (cond b e e.not')], ch }
    | [] => none
   | _ => none
  | .block id body => to (.code body :: .inBlock id :: k)
  | .loop body => to (.code body :: .inLoop body :: k)
  | .scope body => to (.code body :: .inScope body :: k)
  | .exit id => match cS id k with
   | some k => to k
   | none => rZ C fr callers h (some (.exit id)) ch
  | .region _ ops false => to (.kP ops 0 ops.toList :: k)
  | .region id ops true => match b9 fr.fn C.pl with
   | some l => match b9 id l with
    | some p => cond (sy ops p) (to (.cU ops p :: k)) none
    | none => none
   | none => none
  | .rangeFunc f params assign body => match fr.roundOf with
   | none =>
    let h1 := h.new (.deferred (some []))
    let l := h1.next
    let h2 := h1.new (.loop { state := .ready, pending := none, fn := fr.fn, nt := fr.nt, tm := fr.tm, params, assign, body, defers := h.next })
    match wI C.P (aU fr.tm f) [.aF l] with
    | some n => nr C { fr with todo := .inRangeFunc l :: k, defers := { yj := .collected h.next, args := [] } :: fr.defers } callers n h2 [.aF l] [] ch
    | none => none
   | some outer => match iK h outer with
    | some r =>
     let l := h.next
     let h2 := h.new (.loop { state := .ready, pending := none, fn := fr.fn, nt := fr.nt, tm := fr.tm, params, assign, body, defers := r.defers })
     match wI C.P (aU fr.tm f) [.aF l] with
     | some n => nr C { fr with todo := .inRangeFunc l :: k } callers n h2 [.aF l] [] ch
     | none => none
    | none => none
  | _ => none
 | .inBlock _ :: k => to k
 | .inScope _ :: k => to k
 | .inLoop body :: k => to (.code body :: .inLoop body :: k)
 | .kP _ _ [] :: k => to k
 | .kP ops _ (o :: _) :: _ => zI C fr callers h ops o ch
 | .cU _ [] :: k => to k
 | .cU ops ((i, _) :: _) :: _ => match ops[i]? with
  | some o => zI C fr callers h ops o ch
  | none => none
 | .inRangeFunc _ :: _ => none
 | .beginRound :: k => match fr.roundOf with
  | some l => match iK h l with
   | some r => match r.state with
    | .ready => some { m := { fr := { fr with todo := k }, callers, h := h.set l (.loop { r with state := .busy }) }, ev := [], ch }
    | _ => none
   | none => none
  | none => none
 | .endRangeFunc l :: k => match iK h l with
  | some r => match r.state with
   | .busy => none
   | _ => some { m := { fr := { fr with todo := match r.pending with | some c => .code c :: k | none => k }, callers, h := h.set l (.loop { r with state := .exhausted }) }, ev := [], ch }
  | none => none
def u6 (C : dj) (fr : aT) (callers : List aT) (h : ae) (ch : List Bool) : Option Out :=
 match fr.defers with
 | { yj := .collected r, .. } :: ds => match h.get r with
  | some (.deferred (some calls)) => some { m := { fr := { fr with defers := calls ++ ds }, callers, h := h.set r (.deferred none) }, ev := [], ch }
  | _ => none
 | { yj := .func f, args } :: ds => match nm C.P f args true with
  | some g => some { m := { fr := g, callers := { fr with defers := ds } :: callers, h }, ev := [], ch }
  | none => none
 | [] => match C.P.funcs[fr.fn]? with
  | some fn => match gU C.P h fr.tm fn.results.toList with
   | some ([v], c) => (mn C fr callers v h ch).map fun o => { o with ev := asks c ++ o.ev }
   | some (vs, c) => (mn C fr callers (.tuple vs) h ch).map fun o => { o with ev := asks c ++ o.ev }
   | none => none
  | none => none
def wB (C : dj) (m : au) (ch : List Bool) : Option Out :=
 match m.fr.mode with
 | .run => Bl C m.fr m.callers m.h ch
 | .returning => u6 C m.fr m.callers m.h ch
def oW (C : dj) : Nat -> au -> List Bool -> List Ev -> Option (au × List Ev × List Bool)
 | 0, m, ch, ev => some (m, ev, ch)
 | n + 1, m, ch, ev => match wB C m ch with
  | some o => oW C n o.m o.ch (ev ++ o.ev)
  | none => none
end
end Go.Sym
