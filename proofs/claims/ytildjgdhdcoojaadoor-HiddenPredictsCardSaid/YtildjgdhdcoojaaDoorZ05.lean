/- Texts of the claim: SymAdopt. -/
import Derived.Test.YtildjgdhdcoojaaDoorZ04
set_option linter.unusedVariables false
set_option linter.unusedSimpArgs false
namespace Go.Sym
open Go Go.Abs
noncomputable section
structure Sub where
 i : List E
 b : List E
 v : List E
 p : List PA
def E.inst (σ : Sub) : E -> E
 | .iv n => σ.i.getD n (.il 0)
 | .il z => .il z
 | .add a b => .add (a.inst σ) (b.inst σ)
 | .sub a b => .sub (a.inst σ) (b.inst σ)
 | .mul a b => .mul (a.inst σ) (b.inst σ)
 | .quo a b => .quo (a.inst σ) (b.inst σ)
 | .rem a b => .rem (a.inst σ) (b.inst σ)
 | .wrap k a => .wrap k (a.inst σ)
 | .shl k a b => .shl k (a.inst σ) (b.inst σ)
 | .shr k a b => .shr k (a.inst σ) (b.inst σ)
 | .bits op k a b => .bits op k (a.inst σ) (b.inst σ)
 | .len x => .len (x.inst σ)
 | .toI x => .toI (x.inst σ)
 | .min a b => .min (a.inst σ) (b.inst σ)
 | .max a b => .max (a.inst σ) (b.inst σ)
 | .ite c a b => .ite (c.inst σ) (a.inst σ) (b.inst σ)
 | .bv n => σ.b.getD n (.bl false)
 | .bl b => .bl b
 | .lt a b => .lt (a.inst σ) (b.inst σ)
 | .le a b => .le (a.inst σ) (b.inst σ)
 | .eq a b => .eq (a.inst σ) (b.inst σ)
 | .not a => .not (a.inst σ)
 | .and a b => .and (a.inst σ) (b.inst σ)
 | .or a b => .or (a.inst σ) (b.inst σ)
 | .beq a b => .beq (a.inst σ) (b.inst σ)
 | .seq a b => .seq (a.inst σ) (b.inst σ)
 | .toB x => .toB (x.inst σ)
 | .isNil x => .isNil (x.inst σ)
 | .vv n => σ.v.getD n .nil
 | .nil => .nil
 | .emp => .emp
 | .snoc x y => .snoc (x.inst σ) (y.inst σ)
 | .app x y => .app (x.inst σ) (y.inst σ)
 | .get x i => .get (x.inst σ) (i.inst σ)
 | .set x i y => .set (x.inst σ) (i.inst σ) (y.inst σ)
 | .cut x i j => .cut (x.inst σ) (i.inst σ) (j.inst σ)
 | .rep n x => .rep (n.inst σ) (x.inst σ)
 | .over x y => .over (x.inst σ) (y.inst σ)
 | .ofI a => .ofI (a.inst σ)
 | .ofB a => .ofB (a.inst σ)
 | .str s => .str s
inductive Srt where | i | b | v
def E.cl (ni nb nv : Nat) : E -> Srt -> Bool
 | .iv n, .i => decide (n < ni)
 | .bv n, .b => decide (n < nb)
 | .vv n, .v => decide (n < nv)
 | .il _, .i => true
 | .bl _, .b => true
 | .nil, .v | .emp, .v | .str _, .v => true
 | .add a b, .i | .sub a b, .i | .mul a b, .i | .quo a b, .i | .rem a b, .i | .min a b, .i | .max a b, .i => a.cl ni nb nv .i && b.cl ni nb nv .i
 | .shl _ a b, .i | .shr _ a b, .i | .bits _ _ a b, .i => a.cl ni nb nv .i && b.cl ni nb nv .i
 | .wrap _ a, .i => a.cl ni nb nv .i
 | .len x, .i | .toI x, .i => x.cl ni nb nv .v
 | .ite c a b, .i => c.cl ni nb nv .b && a.cl ni nb nv .i && b.cl ni nb nv .i
 | .ite c a b, .b => c.cl ni nb nv .b && a.cl ni nb nv .b && b.cl ni nb nv .b
 | .lt a b, .b | .le a b, .b | .eq a b, .b => a.cl ni nb nv .i && b.cl ni nb nv .i
 | .not a, .b => a.cl ni nb nv .b
 | .and a b, .b | .or a b, .b | .beq a b, .b => a.cl ni nb nv .b && b.cl ni nb nv .b
 | .seq a b, .b => a.cl ni nb nv .v && b.cl ni nb nv .v
 | .toB x, .b | .isNil x, .b => x.cl ni nb nv .v
 | .snoc a b, .v | .app a b, .v | .over a b, .v => a.cl ni nb nv .v && b.cl ni nb nv .v
 | .get a b, .v => a.cl ni nb nv .v && b.cl ni nb nv .i
 | .set a b c, .v => a.cl ni nb nv .v && b.cl ni nb nv .i && c.cl ni nb nv .v
 | .cut a b c, .v => a.cl ni nb nv .v && b.cl ni nb nv .i && c.cl ni nb nv .i
 | .rep a b, .v => a.cl ni nb nv .i && b.cl ni nb nv .v
 | .ofI a, .v => a.cl ni nb nv .i
 | .ofB a, .v => a.cl ni nb nv .b
 | _, _ => false
def insts (s : Srt) (σ : Sub) (a b : E) : Bool := a.cl σ.i.length σ.b.length σ.v.length s && decide (a.inst σ = b)
def Sub.ev (σ : Sub) (ρ : Env) : Env := { i := σ.i.map (E.i ρ), b := σ.b.map (E.b ρ), v := σ.v.map (E.v ρ) }
abbrev Blks := List (Nat × Option Nat)
def isView : SV -> Bool
 | .view _ => true
 | _ => false
def fits (P : Program) (h : SHeap) (σ : Sub) (β : Blks) : Nat -> SV -> SV -> Bool
 | 0, _, _ => false
 | f + 1, x, y => match x, y with
  | .bool a, .bool b => insts .b σ a b
  | .int j a, .int k b => decide (j = k) && insts .i σ a b
  | .str a, .str b => insts .v σ a b
  | .nilp, .nilp => true
  | .addr a i, .addr b j => decide (findA a β = some (some b)) && Nat.beq i j
  | .addrE a i m, .addrE b j n => decide (findA a β = some (some b)) && insts .i σ i j && Nat.beq m n
  | .nils, .nils => true
  | .view a, .view b => decide (findA a β = some (some b))
  | .view a, .nils => decide (findA a β = some none)
  | .pure t e (.cell n 0), y => match y with
   | .nils => insts .v σ e .nil && decide (σ.p[n]? = some .nil) && (match sizeT P t with | some (_ + 1) => true | _ => false)
   | y => match pureOf h y with
    | some (t', e', p') => Nat.beq t t' && insts .v σ e e' && decide (σ.p[n]? = some p')
    | none => false
  | .nilm, .nilm => true
  | .nilf, .nilf => true
  | .func a x u, .func b y v => Nat.beq a b && all2 (fits P h σ β f) x y && all2 (fits P h σ β f) u v
  | .yieldf a, .yieldf b => decide (findA a β = some (some b))
  | .nili, .nili => true
  | .iface t a, .iface u b => Nat.beq t u && fits P h σ β f a b
  | .agg a, .agg b => all2 (fits P h σ β f) a b
  | .tuple a, .tuple b => all2 (fits P h σ β f) a b
  | _, _ => false
def allK {α : Type} (f : Nat -> α -> Bool) : Tr α -> Bool
 | .nil => true
 | .node x a b c d => (match x with | some v => f 0 v | none => true) && allK (fun m => f (4 * m + 1)) a && allK (fun m => f (4 * m + 2)) b && allK (fun m => f (4 * m + 3)) c && allK (fun m => f (4 * m + 4)) d
def fitsTm (P : Program) (h : SHeap) (σ : Sub) (β : Blks) (x y : Tr SV) : Bool := allK (fun t v => fits P h σ β 20 v (stGet y t)) x
def fitsDef (P : Program) (h : SHeap) (σ : Sub) (β : Blks) (x y : SDef) : Bool :=
 (match x.tgt, y.tgt with
 | .func a, .func b => Nat.beq a b
 | .collected a, .collected b => decide (findA a β = some (some b))
 | _, _ => false) && all2 (fits P h σ β 20) x.args y.args
def fitsObj (P : Program) (h : SHeap) (σ : Sub) (β : Blks) (x : SObj) (c : Option Nat) : Bool :=
 match x, c with
 | .arr t e _, none => insts .v σ e .nil && (match sizeT P t with | some (_ + 1) => true | _ => false)
 | .arr t e _, some c => match h.get c with
  | some (.arr t' e' _) => Nat.beq t t' && insts .v σ e e'
  | _ => false
 | .tree t e none, none => insts .v σ e .nil && (match sizeT P t with | some (_ + 1) => true | _ => false)
 | .tree t e none, some c => match h.get c with
  | some (.tree t' e' none) => Nat.beq t t' && insts .v σ e e'
  | _ => false
 | .arrH t et e i d, some c => match h.get c with
  | some (.arrH t' et' e' i' d') => Nat.beq t t' && Nat.beq et et' && insts .v σ e e' && insts .i σ i i' && decide (findA d β = some (some d'))
  | _ => false
 | .cells xs, some c => match h.get c with
  | some (.cells ys) => all2 (fits P h σ β 20) xs ys
  | _ => false
 | .deferred none, some c => match h.get c with
  | some (.deferred none) => true
  | _ => false
 | .deferred (some ds), some c => match h.get c with
  | some (.deferred (some es)) => all2 (fitsDef P h σ β) ds es
  | _ => false
 | .loop x, some c => match h.get c with
  | some (.loop y) => fitsTm P h σ β x.tm y.tm && decide (findA x.defers β = some (some y.defers))
  | _ => false
 | _, _ => false
def verOk (n : Nat) : SObj -> Bool
 | .arr _ _ v => Nat.blt v n
 | _ => true
def sameId (β : Blks) (l : Nat) : Bool := decide (findA l β = some (some l))
def todoOk (β : Blks) (l : List AItem) : Bool := l.all fun
 | .inRangeFunc l => sameId β l
 | .endRangeFunc l => sameId β l
 | _ => true
def adoptF (P : Program) (h : SHeap) (σ : Sub) (β : Blks) (x y : SFrame) : Option SFrame :=
 cond (fitsTm P h σ β x.tm y.tm && all2 (fitsDef P h σ β) x.defers y.defers && todoOk β y.todo && (match y.roundOf with | none => true | some l => sameId β l)) (some { y with tm := x.tm, defers := x.defers }) none
def adoptFs (P : Program) (h : SHeap) (σ : Sub) (β : Blks) : List SFrame -> List SFrame -> Option (List SFrame)
 | [], [] => some []
 | x :: xs, y :: ys => match adoptF P h σ β x y, adoptFs P h σ β xs ys with
  | some z, some zs => some (z :: zs)
  | _, _ => none
 | _, _ => none
def adoptLoops (x y : SHeap) : Blks -> Tr SObj -> Tr SObj
 | [], t => t
 | (b, some c) :: β, t => match x.get b, y.get c with
  | some (.loop p), some (.loop q) => (adoptLoops x y β t).set b (.loop { q with tm := p.tm, defers := p.defers })
  | _, _ => adoptLoops x y β t
 | (_, none) :: β, t => adoptLoops x y β t
def adoptH (P : Program) (x y : SHeap) (σ : Sub) (β : Blks) : Bool :=
 allK (fun b o => verOk x.next o && (match findA b β with
  | some c => fitsObj P y σ β o c
  | none => false)) x.t && distinctL (β.filterMap (·.2)) && distinctL (β.map (·.1)) && β.all (fun e => Nat.blt e.1 x.next) && Nat.beq x.ats σ.p.length && Nat.beq x.nv σ.v.length
def adopt (P : Program) (x : SMach) (φ : List Nat) (σ : Sub) (β : Blks) (y : SMach) : Option SMach :=
 let h := freezes (settleAll P y.h) (φ.map .view)
 match adoptF P h σ β x.fr y.fr, adoptFs P h σ β x.callers y.callers with
 | some fr, some callers => cond (adoptH P x.h h σ β) (some { fr, callers, h := { x.h with t := adoptLoops x.h h β x.h.t } }) none
 | _, _ => none
def stretch (C : Cfg) (n : Nat) (ch : List Bool) (x y : SMach) (φ : List Nat) (σ : Sub) (β : Blks) : Option (SMach × List Ev) :=
 match srun C n x ch [] with
 | some (z, ev, []) => (adopt C.P y φ σ β z).map fun m => (m, ev)
 | _ => none
def sargs (P : Program) : Nat -> List TypeId -> Option (List SV)
 | _, [] => some []
 | j, t :: ts => match cellsOf P (PA.cell j) deep t (.vv j) 0, sargs P (j + 1) ts with
  | some cs, some l => (packS P t cs).map (· :: l)
  | _, _ => none
def sbegin (P : Program) (f : FuncId) : Option SMach :=
 match P.funcs[f]? with
 | some fn => match sargs P 0 fn.params.toList with
  | some as_ => (senter P f as_ false).map fun fr => { fr, callers := [], h := { next := 0, ats := fn.params.size, nv := fn.params.size, t := .nil } }
  | none => none
 | none => none
def send (C : Cfg) (f : FuncId) (m : SMach) : Option (E × List Ev) :=
 match m.callers, m.fr.mode, m.fr.defers with
 | [], .returning, [] => cond (Nat.beq m.fr.fn f && !m.fr.deferred) (match C.P.funcs[f]? with
  | some fn => match sresults C.P m.h m.fr.tm fn.results.toList with
   | some (vs, c) =>
    let h1 := freezes (settleAll C.P m.h) (viewsOf vs)
    match fn.resultTypes.toList, vs with
    | [t], [v] => (argE C.P h1 false t v).map fun e => (e, asks c)
    | [_], _ => none
    | ts, vs => (argsE C.P h1 false ts vs).map fun l => (listE l, asks c)
   | none => none
  | none => none) none
 | _, _, _ => none
def ownVals (P : Program) (h : SHeap) : List TypeId -> List SV -> Option (List E × List Nat)
 | [], [] => some ([], [])
 | t :: ts, v :: vs => match cond (packed? P t v) (ownVal P h deep t v.cells) none, ownVals P h ts vs with
  | some e, some l => some (e.1 :: l.1, e.2 ++ l.2)
  | _, _ => none
 | _, _ => none
def sendO (C : Cfg) (f : FuncId) (m : SMach) : Option (E × List Ev) :=
 match m.callers, m.fr.mode, m.fr.defers with
 | [], .returning, [] => cond (Nat.beq m.fr.fn f && !m.fr.deferred) (match C.P.funcs[f]? with
  | some fn => match sresults C.P m.h m.fr.tm fn.results.toList with
   | some (vs, c) => match ownVals C.P (settleAll C.P m.h) fn.resultTypes.toList vs with
    | some (es, bs) => cond (distinctL bs) (match fn.resultTypes.toList, es with
     | [_], [e] => some (e, asks c)
     | [_], _ => none
     | _, es => some (listE es, asks c)) none
    | none => none
   | none => none
  | none => none) none
 | _, _, _ => none
def lastO (C : Cfg) (f : FuncId) (n : Nat) (ch : List Bool) (x : SMach) : Option (E × List Ev) :=
 match srun C n x ch [] with
 | some (z, ev, []) => (sendO C f z).map fun r => (r.1, ev ++ r.2)
 | _ => none
def last (C : Cfg) (f : FuncId) (n : Nat) (ch : List Bool) (x : SMach) : Option (E × List Ev) :=
 match srun C n x ch [] with
 | some (z, ev, []) => (send C f z).map fun r => (r.1, ev ++ r.2)
 | _ => none
end
end Go.Sym
