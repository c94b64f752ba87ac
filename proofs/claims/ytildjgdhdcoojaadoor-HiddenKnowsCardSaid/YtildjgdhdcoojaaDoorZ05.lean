/- Texts of the claim: SymAdopt. -/
import Derived.Test.YtildjgdhdcoojaaDoorZ04
set_option linter.unusedVariables false
set_option linter.unusedSimpArgs false
namespace Go.Sym
open Go Go.a9
noncomputable section
structure Sub where
 i : List E
 b : List E
 v : List E
 p : List PA
def E.inst (σ : Sub) : E -> E
 | .iv n => σ.i.getD n (.il 0)
 | .il z => .il z
 | .add a b => .add (a.inst σ) (b.inst σ)
 | .sub a b => .sub (a.inst σ) (b.inst σ)
 | .mul a b => .mul (a.inst σ) (b.inst σ)
 | .quo a b => .quo (a.inst σ) (b.inst σ)
 | .rem a b => .rem (a.inst σ) (b.inst σ)
 | .wrap k a => .wrap k (a.inst σ)
 | .shl k a b => .shl k (a.inst σ) (b.inst σ)
 | .shr k a b => .shr k (a.inst σ) (b.inst σ)
 | .bits op k a b => .bits op k (a.inst σ) (b.inst σ)
 | .len x => .len (x.inst σ)
 | .ab x => .ab (x.inst σ)
 | .min a b => .min (a.inst σ) (b.inst σ)
 | .max a b => .max (a.inst σ) (b.inst σ)
 | .ite c a b => .ite (c.inst σ) (a.inst σ) (b.inst σ)
 | .bv n => σ.b.getD n (.bl false)
 | .bl b => .bl b
 | .lt a b => .lt (a.inst σ) (b.inst σ)
 | .le a b => .le (a.inst σ) (b.inst σ)
 | .eq a b => .eq (a.inst σ) (b.inst σ)
 | .not a => .not (a.inst σ)
 | .and a b => .and (a.inst σ) (b.inst σ)
 | .or a b => .or (a.inst σ) (b.inst σ)
 | .beq a b => .beq (a.inst σ) (b.inst σ)
 | .seq a b => .seq (a.inst σ) (b.inst σ)
 | .eI x => .eI (x.inst σ)
 | .isNil x => .isNil (x.inst σ)
 | .vv n => σ.v.getD n .nil
 | .nil => .nil
 | .emp => .emp
 | .snoc x y => .snoc (x.inst σ) (y.inst σ)
 | .app x y => .app (x.inst σ) (y.inst σ)
 | .get x i => .get (x.inst σ) (i.inst σ)
 | .set x i y => .set (x.inst σ) (i.inst σ) (y.inst σ)
 | .cut x i j => .cut (x.inst σ) (i.inst σ) (j.inst σ)
 | .rep n x => .rep (n.inst σ) (x.inst σ)
 | .over x y => .over (x.inst σ) (y.inst σ)
 | .aN a => .aN (a.inst σ)
 | .gN a => .gN (a.inst σ)
 | .str s => .str s
inductive EL where | i | b | v
def E.cl (ni nb nv : Nat) : E -> EL -> Bool
 | .iv n, .i => decide (n < ni)
 | .bv n, .b => decide (n < nb)
 | .vv n, .v => decide (n < nv)
 | .il _, .i => true
 | .bl _, .b => true
 | .nil, .v | .emp, .v | .str _, .v => true
 | .add a b, .i | .sub a b, .i | .mul a b, .i | .quo a b, .i | .rem a b, .i | .min a b, .i | .max a b, .i => a.cl ni nb nv .i && b.cl ni nb nv .i
 | .shl _ a b, .i | .shr _ a b, .i | .bits _ _ a b, .i => a.cl ni nb nv .i && b.cl ni nb nv .i
 | .wrap _ a, .i => a.cl ni nb nv .i
 | .len x, .i | .ab x, .i => x.cl ni nb nv .v
 | .ite c a b, .i => c.cl ni nb nv .b && a.cl ni nb nv .i && b.cl ni nb nv .i
 | .ite c a b, .b => c.cl ni nb nv .b && a.cl ni nb nv .b && b.cl ni nb nv .b
 | .lt a b, .b | .le a b, .b | .eq a b, .b => a.cl ni nb nv .i && b.cl ni nb nv .i
 | .not a, .b => a.cl ni nb nv .b
 | .and a b, .b | .or a b, .b | .beq a b, .b => a.cl ni nb nv .b && b.cl ni nb nv .b
 | .seq a b, .b => a.cl ni nb nv .v && b.cl ni nb nv .v
 | .eI x, .b | .isNil x, .b => x.cl ni nb nv .v
 | .snoc a b, .v | .app a b, .v | .over a b, .v => a.cl ni nb nv .v && b.cl ni nb nv .v
 | .get a b, .v => a.cl ni nb nv .v && b.cl ni nb nv .i
 | .set a b c, .v => a.cl ni nb nv .v && b.cl ni nb nv .i && c.cl ni nb nv .v
 | .cut a b c, .v => a.cl ni nb nv .v && b.cl ni nb nv .i && c.cl ni nb nv .i
 | .rep a b, .v => a.cl ni nb nv .i && b.cl ni nb nv .v
 | .aN a, .v => a.cl ni nb nv .i
 | .gN a, .v => a.cl ni nb nv .b
 | _, _ => false
def insts (s : EL) (σ : Sub) (a b : E) : Bool := a.cl σ.i.length σ.b.length σ.v.length s && decide (a.inst σ = b)
def Sub.ev (σ : Sub) (ρ : Env) : Env := { i := σ.i.map (E.i ρ), b := σ.b.map (E.b ρ), v := σ.v.map (E.v ρ) }
abbrev j8 := List (Nat × Option Nat)
def EE : SV -> Bool
 | .view _ => true
 | _ => false
def fits (P : Program) (h : ae) (σ : Sub) (β : j8) : Nat -> SV -> SV -> Bool
 | 0, _, _ => false
 | f + 1, x, y => match x, y with
  | .bool a, .bool b => insts .b σ a b
  | .int j a, .int k b => decide (j = k) && insts .i σ a b
  | .str a, .str b => insts .v σ a b
  | .fe, .fe => true
  | .addr a i, .addr b j => decide (b9 a β = some (some b)) && Nat.beq i j
  | .bI a i m, .bI b j n => decide (b9 a β = some (some b)) && insts .i σ i j && Nat.beq m n
  | .aV, .aV => true
  | .view a, .view b => decide (b9 a β = some (some b))
  | .view a, .aV => decide (b9 a β = some none)
  | .pure t e (.cell n 0), y => match y with
   | .aV => insts .v σ e .nil && decide (σ.p[n]? = some .nil) && (match aA P t with | some (_ + 1) => true | _ => false)
   | y => match pq h y with
    | some (t', e', p') => Nat.beq t t' && insts .v σ e e' && decide (σ.p[n]? = some p')
    | none => false
  | .fK, .fK => true
  | .fB, .fB => true
  | .func a x u, .func b y v => Nat.beq a b && cO (fits P h σ β f) x y && cO (fits P h σ β f) u v
  | .aF a, .aF b => decide (b9 a β = some (some b))
  | .cW, .cW => true
  | .iface t a, .iface u b => Nat.beq t u && fits P h σ β f a b
  | .agg a, .agg b => cO (fits P h σ β f) a b
  | .tuple a, .tuple b => cO (fits P h σ β f) a b
  | _, _ => false
def xW {α : Type} (f : Nat -> α -> Bool) : Tr α -> Bool
 | .nil => true
 | .node x a b c d => (match x with | some v => f 0 v | none => true) && xW (fun m => f (4 * m + 1)) a && xW (fun m => f (4 * m + 2)) b && xW (fun m => f (4 * m + 3)) c && xW (fun m => f (4 * m + 4)) d
def yW (P : Program) (h : ae) (σ : Sub) (β : j8) (x y : Tr SV) : Bool := xW (fun t v => fits P h σ β 20 v (mM y t)) x
def rD (P : Program) (h : ae) (σ : Sub) (β : j8) (x y : oR) : Bool :=
 (match x.yj, y.yj with
 | .func a, .func b => Nat.beq a b
 | .collected a, .collected b => decide (b9 a β = some (some b))
 | _, _ => false) && cO (fits P h σ β 20) x.args y.args
def bt (P : Program) (h : ae) (σ : Sub) (β : j8) (x : b5) (c : Option Nat) : Bool :=
 match x, c with
 | .arr t e _, none => insts .v σ e .nil && (match aA P t with | some (_ + 1) => true | _ => false)
 | .arr t e _, some c => match h.get c with
  | some (.arr t' e' _) => Nat.beq t t' && insts .v σ e e'
  | _ => false
 | .tree t e none, none => insts .v σ e .nil && (match aA P t with | some (_ + 1) => true | _ => false)
 | .tree t e none, some c => match h.get c with
  | some (.tree t' e' none) => Nat.beq t t' && insts .v σ e e'
  | _ => false
 | .dW t et e i d, some c => match h.get c with
  | some (.dW t' et' e' i' d') => Nat.beq t t' && Nat.beq et et' && insts .v σ e e' && insts .i σ i i' && decide (b9 d β = some (some d'))
  | _ => false
 | .cells xs, some c => match h.get c with
  | some (.cells ys) => cO (fits P h σ β 20) xs ys
  | _ => false
 | .deferred none, some c => match h.get c with
  | some (.deferred none) => true
  | _ => false
 | .deferred (some ds), some c => match h.get c with
  | some (.deferred (some es)) => cO (rD P h σ β) ds es
  | _ => false
 | .loop x, some c => match h.get c with
  | some (.loop y) => yW P h σ β x.tm y.tm && decide (b9 x.defers β = some (some y.defers))
  | _ => false
 | _, _ => false
def C7 (n : Nat) : b5 -> Bool
 | .arr _ _ v => Nat.blt v n
 | _ => true
def pd (β : j8) (l : Nat) : Bool := decide (b9 l β = some (some l))
def yh (β : j8) (l : List bu) : Bool := l.all fun
 | .inRangeFunc l => pd β l
 | .endRangeFunc l => pd β l
 | _ => true
def vY (P : Program) (h : ae) (σ : Sub) (β : j8) (x y : aT) : Option aT :=
 cond (yW P h σ β x.tm y.tm && cO (rD P h σ β) x.defers y.defers && yh β y.todo && (match y.roundOf with | none => true | some l => pd β l)) (some { y with tm := x.tm, defers := x.defers }) none
def rG (P : Program) (h : ae) (σ : Sub) (β : j8) : List aT -> List aT -> Option (List aT)
 | [], [] => some []
 | x :: xs, y :: ys => match vY P h σ β x y, rG P h σ β xs ys with
  | some z, some zs => some (z :: zs)
  | _, _ => none
 | _, _ => none
def dY (x y : ae) : j8 -> Tr b5 -> Tr b5
 | [], t => t
 | (b, some c) :: β, t => match x.get b, y.get c with
  | some (.loop p), some (.loop q) => (dY x y β t).set b (.loop { q with tm := p.tm, defers := p.defers })
  | _, _ => dY x y β t
 | (_, none) :: β, t => dY x y β t
def Cg (P : Program) (x y : ae) (σ : Sub) (β : j8) : Bool :=
 xW (fun b o => C7 x.next o && (match b9 b β with
  | some c => bt P y σ β o c
  | none => false)) x.t && cz (β.filterMap (·.2)) && cz (β.map (·.1)) && β.all (fun e => Nat.blt e.1 x.next) && Nat.beq x.iz σ.p.length && Nat.beq x.nv σ.v.length
def Ch (P : Program) (x : au) (φ : List Nat) (σ : Sub) (β : j8) (y : au) : Option au :=
 let h := dG (fY P y.h) (φ.map .view)
 match vY P h σ β x.fr y.fr, rG P h σ β x.callers y.callers with
 | some fr, some callers => cond (Cg P x.h h σ β) (some { fr, callers, h := { x.h with t := dY x.h h β x.h.t } }) none
 | _, _ => none
def af (C : dj) (n : Nat) (ch : List Bool) (x y : au) (φ : List Nat) (σ : Sub) (β : j8) : Option (au × List Ev) :=
 match oW C n x ch [] with
 | some (z, ev, []) => (Ch C.P y φ σ β z).map fun m => (m, ev)
 | _ => none
def zO (P : Program) : Nat -> List TypeId -> Option (List SV)
 | _, [] => some []
 | j, t :: ts => match cellsOf P (PA.cell j) deep t (.vv j) 0, zO P (j + 1) ts with
  | some cs, some l => (sC P t cs).map (· :: l)
  | _, _ => none
def aW (P : Program) (f : FuncId) : Option au :=
 match P.funcs[f]? with
 | some fn => match zO P 0 fn.params.toList with
  | some as_ => (nm P f as_ false).map fun fr => { fr, callers := [], h := { next := 0, iz := fn.params.size, nv := fn.params.size, t := .nil } }
  | none => none
 | none => none
def send (C : dj) (f : FuncId) (m : au) : Option (E × List Ev) :=
 match m.callers, m.fr.mode, m.fr.defers with
 | [], .returning, [] => cond (Nat.beq m.fr.fn f && !m.fr.deferred) (match C.P.funcs[f]? with
  | some fn => match gU C.P m.h m.fr.tm fn.results.toList with
   | some (vs, c) =>
    let h1 := dG (fY C.P m.h) (eT vs)
    match fn.resultTypes.toList, vs with
    | [t], [v] => (C0 C.P h1 false t v).map fun e => (e, asks c)
    | [_], _ => none
    | ts, vs => (uS C.P h1 false ts vs).map fun l => (qw l, asks c)
   | none => none
  | none => none) none
 | _, _, _ => none
def ru (P : Program) (h : ae) : List TypeId -> List SV -> Option (List E × List Nat)
 | [], [] => some ([], [])
 | t :: ts, v :: vs => match cond (oh P t v) (kl P h deep t v.cells) none, ru P h ts vs with
  | some e, some l => some (e.1 :: l.1, e.2 ++ l.2)
  | _, _ => none
 | _, _ => none
def C9 (C : dj) (f : FuncId) (m : au) : Option (E × List Ev) :=
 match m.callers, m.fr.mode, m.fr.defers with
 | [], .returning, [] => cond (Nat.beq m.fr.fn f && !m.fr.deferred) (match C.P.funcs[f]? with
  | some fn => match gU C.P m.h m.fr.tm fn.results.toList with
   | some (vs, c) => match ru C.P (fY C.P m.h) fn.resultTypes.toList vs with
    | some (es, bs) => cond (cz bs) (match fn.resultTypes.toList, es with
     | [_], [e] => some (e, asks c)
     | [_], _ => none
     | _, es => some (qw es, asks c)) none
    | none => none
   | none => none
  | none => none) none
 | _, _, _ => none
def zW (C : dj) (f : FuncId) (n : Nat) (ch : List Bool) (x : au) : Option (E × List Ev) :=
 match oW C n x ch [] with
 | some (z, ev, []) => (C9 C f z).map fun r => (r.1, ev ++ r.2)
 | _ => none
def last (C : dj) (f : FuncId) (n : Nat) (ch : List Bool) (x : au) : Option (E × List Ev) :=
 match oW C n x ch [] with
 | some (z, ev, []) => (send C f z).map fun r => (r.1, ev ++ r.2)
 | _ => none
end
end Go.Sym
