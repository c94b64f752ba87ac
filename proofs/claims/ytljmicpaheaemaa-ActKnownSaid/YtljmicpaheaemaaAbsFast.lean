/- The abstract machine's step once more, written for the kernel: frames are taken to pieces, and what an operation does is a closure that the kernel keeps. -/
import Derived.Test.YtljmicpaheaemaaAbsDef
namespace Go.Abs
set_option linter.unusedVariables false
set_option linter.unusedSimpArgs false
noncomputable section

inductive Res where
  | val (v : AV)
  | new (ob : AObj) (v : AV)
  | next (n : ANext) (h : Heap)
  | no

def Res.ofVal (r : Option AV) : Res := Option.rec (motive := fun _ => Res) .no (fun v => .val v) r
def Res.ofNext (r : Option (ANext × Heap)) : Res := Option.rec (motive := fun _ => Res) .no (fun p => .next p.1 p.2) r
def Res.ofNew (r : Option (AObj × AV)) : Res := Option.rec (motive := fun _ => Res) .no (fun p => .new p.1 p.2) r

/-- What an operation comes to, guards aside. -/
def resOf (P : Program) (h : Heap) (tm : Tr AV) (o : Oper) : Res :=
  match alight P h tm o with
  | some v => .val v
  | none => match afresh P h.next tm o with
    | some (ob, v) => .new ob v
    | none => match aheavy P h tm o with
      | some (n, h) => .next n h
      | none => .no

structure KArg where
  run : Tr AV → AV
def kArg (x : Operand) : KArg :=
  match x with
  | .tmp t => ⟨fun tm => Option.rec (motive := fun _ => AV) .bad (fun v => v) ((wayTo AV (Nat.succ t) t).get tm)⟩
  | .const v => ⟨fun _ => ofV v⟩
  | .global _ => ⟨fun _ => .bad⟩
  | .func f => ⟨fun _ => .func f [] []⟩
theorem kArg_run (x : Operand) (tm : Tr AV) : (kArg x).run tm = evalOp tm x := by
  cases x with
  | tmp t => simp only [kArg, evalOp, tmGet, Tr.get]; cases (wayTo AV (Nat.succ t) t).get tm <;> rfl
  | const v => rfl
  | global g => rfl
  | func f => rfl

structure KBin where
  run : AV → AV → Option AV
def kBin (P : Program) (op : BinOp) (t : TypeId) (x y : Operand) : KBin :=
  match op with
  | .add => ⟨fun a b => match a with
    | .int j m => match b with
      | .int k n => cond (decide (j = k)) (some (.int j (awrap j (Int.add m n)))) none
      | b => abin P .add t x y (.int j m) b
    | a => abin P .add t x y a b⟩
  | op => ⟨fun a b => abin P op t x y a b⟩
theorem kBin_run (P : Program) (op : BinOp) (t : TypeId) (x y : Operand) (a b : AV) : (kBin P op t x y).run a b = abin P op t x y a b := by
  cases op <;> try rfl
  cases a <;> try rfl
  cases b <;> try rfl

structure KOp where
  run : Heap → Tr AV → Res
def kOp1 (P : Program) (o : Oper) : KOp :=
  match o.op with
  | .move x => ⟨fun _ tm => .val ((kArg x).run tm)⟩
  | .assign x => ⟨fun _ tm => .val ((kArg x).run tm)⟩
  | .pick c a b => ⟨fun _ tm => .ofVal (pick ((kArg c).run tm) ((kArg a).run tm) ((kArg b).run tm))⟩
  | .load t a => ⟨fun h tm => .ofVal (aload P h t ((kArg a).run tm))⟩
  | .binOp op t x y _ => ⟨fun _ tm => .ofVal ((kBin P op t x y).run ((kArg x).run tm) ((kArg y).run tm))⟩
  | .unOp op _ x => ⟨fun _ tm => .ofVal (aun op ((kArg x).run tm))⟩
  | .convert s d x => ⟨fun _ tm => .ofVal (aconv P s d ((kArg x).run tm))⟩
  | .fieldAddr s x f => ⟨fun _ tm => .ofVal (afieldAddr P s ((kArg x).run tm) f)⟩
  | .field s x f => ⟨fun _ tm => .ofVal (afield P s ((kArg x).run tm) f)⟩
  | .indexAddr t x i => ⟨fun _ tm => .ofVal (aindexAddr P t ((kArg x).run tm) ((kArg i).run tm))⟩
  | .index t x i => ⟨fun _ tm => .ofVal (aindex P t ((kArg x).run tm) ((kArg i).run tm))⟩
  | .store t a x => ⟨fun h tm => .ofNext ((astore P h t ((kArg a).run tm) ((kArg x).run tm)).map fun h => (.value .bad, h))⟩
  | .alloc t => ⟨fun h tm => .ofNew (afresh P h.next tm o)⟩
  | .box t x => ⟨fun h tm => .ofNew (afresh P h.next tm o)⟩
  | .buildSlice t n p => ⟨fun h tm => .ofNew (afresh P h.next tm o)⟩
  | .makeSlice t n p => ⟨fun h tm => .ofNew (afresh P h.next tm o)⟩
  | .call c => match c.callee with
    | .builtin b => match b with
      | .append => ⟨fun h tm => .ofNext (aheavy P h tm o)⟩
      | _ => ⟨fun h tm => resOf P h tm o⟩
    | .value f => ⟨fun h tm => .ofNext ((acall P ((kArg f).run tm) (c.args.toList.map (evalOp tm))).map fun n => (n, h))⟩
    | _ => ⟨fun h tm => resOf P h tm o⟩
  | _ => ⟨fun h tm => resOf P h tm o⟩
theorem Res.ofVal_eq (r : Option AV) : Res.ofVal r = match r with | some v => .val v | none => .no := by cases r <;> rfl
theorem Res.ofNext_eq (r : Option (ANext × Heap)) : Res.ofNext r = match r with | some (n, h) => .next n h | none => .no := by cases r <;> rfl
theorem Res.ofNew_eq (r : Option (AObj × AV)) : Res.ofNew r = match r with | some (n, h) => .new n h | none => .no := by cases r <;> rfl

theorem kOp1_run (P : Program) (o : Oper) (h : Heap) (tm : Tr AV) : (kOp1 P o).run h tm = resOf P h tm o := by
  obtain ⟨dst, op, type, guard, pos, after⟩ := o
  cases op
  case call c =>
    obtain ⟨callee, args, argTypes⟩ := c
    cases callee
    case builtin b =>
      cases b <;> try rfl
      simp only [kOp1, Res.ofNext_eq, resOf, alight, afresh]
    case value f =>
      simp only [kOp1, Res.ofNext_eq, resOf, alight, afresh, kArg_run, aheavy]
    all_goals rfl
  all_goals first
    | rfl
    | (simp only [kOp1, Res.ofVal_eq, Res.ofNext_eq, Res.ofNew_eq, resOf, alight, afresh, aheavy, kArg_run, kBin_run]; done)
    | (simp only [kOp1, Res.ofVal_eq, Res.ofNext_eq, Res.ofNew_eq, resOf, alight, afresh, aheavy, kArg_run, kBin_run]; rfl)
    | (simp only [kOp1, Res.ofVal_eq, Res.ofNext_eq, Res.ofNew_eq, resOf, alight, afresh, aheavy, kArg_run, kBin_run]; split <;> simp_all)
end
end Go.Abs
