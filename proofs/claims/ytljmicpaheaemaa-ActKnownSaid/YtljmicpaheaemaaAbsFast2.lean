import Derived.Test.YtljmicpaheaemaaAbsFast
namespace Go.Abs
set_option linter.unusedVariables false
set_option linter.unusedSimpArgs false
noncomputable section

def resW (P : Program) (h : Heap) (tm : Tr AV) (ops : Array Oper) (o : Oper) : Res :=
  match awanted ops tm o with
  | some true => resOf P h tm o
  | some false => .val (.tuple [])
  | none => .no
def kOp (P : Program) (ops : Array Oper) (o : Oper) : KOp :=
  match o.guard with
  | none => kOp1 P o
  | some _ => ⟨fun h tm => match awanted ops tm o with
    | some b => Bool.rec (motive := fun _ => Res) (.val (.tuple [])) ((kOp1 P o).run h tm) b
    | none => .no⟩
theorem kOp_run (P : Program) (ops : Array Oper) (o : Oper) (h : Heap) (tm : Tr AV) : (kOp P ops o).run h tm = resW P h tm ops o := by
  unfold kOp resW
  cases hg : o.guard with
  | none => simp only [kOp1_run, awanted, hg]
  | some g =>
    simp only
    cases awanted ops tm o with
    | none => rfl
    | some b => cases b <;> simp [kOp1_run]

/-- A frame takes what its operation has yielded. -/
def finF (P : Program) (h : Heap) (fr : AFrame) (callers : List AFrame) (v : AV) : Option AMach :=
  match fr with
  | ⟨fn, nt, tm, todo, defers, mode, deferred, roundOf⟩ => match todo with
    | [] => none
    | it :: k => match it with
      | .reg ops i rest => match rest with
        | [] => none
        | o :: rest => match o.dst with
          | none => some ⟨⟨fn, nt, tm, .reg ops (Nat.succ i) rest :: k, defers, mode, deferred, roundOf⟩, callers, h⟩
          | some d => cond (Nat.blt d nt) (some ⟨⟨fn, nt, tm.set d v, .reg ops (Nat.succ i) rest :: k, defers, mode, deferred, roundOf⟩, callers, h⟩) none
      | .dreg ops rest => match rest with
        | [] => none
        | x :: rest => match x with
          | (i, chk) => match ops[i]? with
            | none => none
            | some o => match o.dst with
              | none => cond (again P h tm ops chk) (some ⟨⟨fn, nt, tm, .dreg ops rest :: k, defers, mode, deferred, roundOf⟩, callers, h⟩) none
              | some d => cond (Nat.blt d nt) (cond (again P h (tm.set d v) ops chk) (some ⟨⟨fn, nt, tm.set d v, .dreg ops rest :: k, defers, mode, deferred, roundOf⟩, callers, h⟩) none) none
      | it => match afinish P h ⟨fn, nt, tm, it :: k, defers, mode, deferred, roundOf⟩ v with
        | some fr => some ⟨fr, callers, h⟩
        | none => none
def finM (P : Program) (h : Heap) (fr : AFrame) (callers : List AFrame) (v : AV) : Option AMach :=
  match afinish P h fr v with
  | some fr => some { fr, callers, h }
  | none => none
theorem finF_eq (P : Program) (h : Heap) (fr : AFrame) (callers : List AFrame) (v : AV) : finF P h fr callers v = finM P h fr callers v := by
  obtain ⟨fn, nt, tm, todo, defers, mode, deferred, roundOf⟩ := fr
  unfold finF finM
  cases todo with
  | nil => rfl
  | cons it k =>
    cases it
    case reg ops i rest =>
      cases rest with
      | nil => rfl
      | cons o rest =>
        simp only [afinish, tmSet]
        cases o.dst with
        | none => rfl
        | some d => simp only; cases Nat.blt d nt <;> rfl
    case dreg ops rest =>
      cases rest with
      | nil => rfl
      | cons x rest =>
        obtain ⟨i, chk⟩ := x
        simp only [afinish, tmSet]
        cases ops[i]? with
        | none => rfl
        | some o =>
          simp only
          cases o.dst with
          | none => simp only; cases again P h tm ops chk <;> rfl
          | some d =>
            simp only
            cases Nat.blt d nt with
            | false => rfl
            | true => simp only [cond_true]; cases again P h (tm.set d v) ops chk <;> rfl
    all_goals rfl

/-- A frame goes on with what its operation has come to. -/
def goF (P : Program) (h : Heap) (o : Oper) (fr : AFrame) (callers : List AFrame) (r : Res) : Option AMach :=
  match r with
  | .val v => finF P h fr callers v
  | .new ob v => finF P (h.new ob) fr callers v
  | .next n h => match n with
    | .value v => finF P h fr callers v
    | .enter f args => match enter P f args false with
      | some g => some ⟨g, fr :: callers, h⟩
      | none => none
    | n => apply P fr callers n h (match o.op with | .call c => c.args.toList.map (evalOp fr.tm) | _ => [])
  | .no => none
theorem goF_eq (P : Program) (h : Heap) (ops : Array Oper) (o : Oper) (fr : AFrame) (callers : List AFrame) :
    goF P h o fr callers ((kOp P ops o).run h fr.tm) = aoper P fr callers h ops o := by
  rw [kOp_run]
  unfold goF aoper resW resOf
  cases awanted ops fr.tm o with
  | none => rfl
  | some b =>
    cases b with
    | false => simp only [finF_eq, finM]; rfl
    | true =>
      simp only
      cases alight P h fr.tm o with
      | some v => simp only [finF_eq, finM]; rfl
      | none =>
        simp only
        cases afresh P h.next fr.tm o with
        | some x => obtain ⟨ob, v⟩ := x; simp only [finF_eq, finM]; rfl
        | none =>
          simp only
          cases aheavy P h fr.tm o with
          | none => rfl
          | some x =>
            obtain ⟨n, h'⟩ := x
            cases n <;> first | rfl | (simp only [finF_eq, finM, apply]; rfl)

structure KCode where
  run : FuncId → Nat → Tr AV → List AItem → List ADef → Bool → Option Nat → List AFrame → Heap → Option AMach
def kCode (P : Program) (pl : Plans) (c : Code) : KCode :=
  match c with
  | .skip => ⟨fun fn nt tm k ds df ro cs h => some ⟨⟨fn, nt, tm, k, ds, .run, df, ro⟩, cs, h⟩⟩
  | .seq a b => ⟨fun fn nt tm k ds df ro cs h => some ⟨⟨fn, nt, tm, .code a :: .code b :: k, ds, .run, df, ro⟩, cs, h⟩⟩
  | .cond c thn els => ⟨fun fn nt tm k ds df ro cs h => match (kArg c).run tm with
    | .bool b => Bool.rec (motive := fun _ => Option AMach) (some ⟨⟨fn, nt, tm, .code els :: k, ds, .run, df, ro⟩, cs, h⟩) (some ⟨⟨fn, nt, tm, .code thn :: k, ds, .run, df, ro⟩, cs, h⟩) b
    | _ => none⟩
  | .block id body => ⟨fun fn nt tm k ds df ro cs h => some ⟨⟨fn, nt, tm, .code body :: .inBlock id :: k, ds, .run, df, ro⟩, cs, h⟩⟩
  | .loop body => ⟨fun fn nt tm k ds df ro cs h => some ⟨⟨fn, nt, tm, .code body :: .inLoop body :: k, ds, .run, df, ro⟩, cs, h⟩⟩
  | .scope body => ⟨fun fn nt tm k ds df ro cs h => some ⟨⟨fn, nt, tm, .code body :: .inScope body :: k, ds, .run, df, ro⟩, cs, h⟩⟩
  | .exit id => ⟨fun fn nt tm k ds df ro cs h => match aexitTo id k with
    | some k => some ⟨⟨fn, nt, tm, k, ds, .run, df, ro⟩, cs, h⟩
    | none => aleave P ⟨fn, nt, tm, .code (.exit id) :: k, ds, .run, df, ro⟩ cs h (some (.exit id))⟩
  | .ret => ⟨fun fn nt tm k ds df ro cs h => match ro with
    | none => some ⟨⟨fn, nt, tm, .code .ret :: k, ds, .returning, df, none⟩, cs, h⟩
    | some l => aleave P ⟨fn, nt, tm, .code .ret :: k, ds, .run, df, some l⟩ cs h (some .ret)⟩
  | .region id ops d => Bool.rec (motive := fun _ => KCode)
      ⟨fun fn nt tm k ds df ro cs h => some ⟨⟨fn, nt, tm, .reg ops (nat_lit 0) ops.toList :: k, ds, .run, df, ro⟩, cs, h⟩⟩
      ⟨fun fn nt tm k ds df ro cs h => match findA fn pl with
        | some l => match findA id l with
          | some p => cond (planOk ops p) (some ⟨⟨fn, nt, tm, .dreg ops p :: k, ds, .run, df, ro⟩, cs, h⟩) none
          | none => none
        | none => none⟩ d
  | c => ⟨fun fn nt tm k ds df ro cs h => exec P pl ⟨fn, nt, tm, .code c :: k, ds, .run, df, ro⟩ cs h⟩
theorem kCode_run (P : Program) (pl : Plans) (c : Code) (fn : FuncId) (nt : Nat) (tm : Tr AV) (k : List AItem) (ds : List ADef) (df : Bool) (ro : Option Nat) (cs : List AFrame) (h : Heap) :
    (kCode P pl c).run fn nt tm k ds df ro cs h = exec P pl ⟨fn, nt, tm, .code c :: k, ds, .run, df, ro⟩ cs h := by
  cases c
  case cond c thn els =>
    simp only [kCode, kArg_run, exec]
    cases evalOp tm c <;> try rfl
    rename_i b; cases b <;> rfl
  case ret => cases ro <;> rfl
  case region id ops d =>
    cases d with
    | false => rfl
    | true => rfl
  all_goals rfl

/-- A frame that is done, without deferred calls. -/
def retF (P : Program) (fr : AFrame) (callers : List AFrame) (v : AV) (h : Heap) : Option AMach :=
  match callers with
  | [] => none
  | c :: rest => match fr.deferred with
    | true => areturn P fr (c :: rest) v h
    | false => match c.mode with
      | .run => finF P h c rest v
      | _ => none
theorem retF_eq (P : Program) (fr : AFrame) (callers : List AFrame) (v : AV) (h : Heap) : retF P fr callers v h = areturn P fr callers v h := by
  cases callers with
  | nil => rfl
  | cons c rest =>
    unfold retF
    cases hd : fr.deferred with
    | true => rfl
    | false =>
      simp only [areturn, hd, cond_false, finF_eq, finM]
      cases c.mode <;> rfl
def unwindF (P : Program) (fr : AFrame) (callers : List AFrame) (h : Heap) : Option AMach :=
  match fr with
  | ⟨fn, nt, tm, todo, defers, mode, deferred, roundOf⟩ => match defers with
    | [] => match mode with
      | .returning => match P.funcs[fn]? with
        | some f => match aresults P h tm f.results.toList with
          | some [v] => retF P ⟨fn, nt, tm, todo, defers, mode, deferred, roundOf⟩ callers v h
          | some vs => retF P ⟨fn, nt, tm, todo, defers, mode, deferred, roundOf⟩ callers (.tuple vs) h
          | none => none
        | none => none
      | m => unwind P ⟨fn, nt, tm, todo, [], m, deferred, roundOf⟩ callers h
    | ds => unwind P ⟨fn, nt, tm, todo, ds, mode, deferred, roundOf⟩ callers h
theorem unwindF_eq (P : Program) (fr : AFrame) (callers : List AFrame) (h : Heap) : unwindF P fr callers h = unwind P fr callers h := by
  obtain ⟨fn, nt, tm, todo, defers, mode, deferred, roundOf⟩ := fr
  cases defers with
  | cons d ds => rfl
  | nil =>
    cases mode <;> try rfl
    simp only [unwindF, unwind, retF_eq]
    rfl

def astepF (P : Program) (pl : Plans) (m : AMach) : Option AMach :=
  match m with
  | ⟨fr, callers, h⟩ => match fr with
    | ⟨fn, nt, tm, todo, defers, mode, deferred, roundOf⟩ => match mode with
      | .run => match todo with
        | [] => aleave P ⟨fn, nt, tm, [], defers, .run, deferred, roundOf⟩ callers h none
        | it :: k => match it with
          | .code c => (kCode P pl c).run fn nt tm k defers deferred roundOf callers h
          | .reg ops i rest => match rest with
            | [] => some ⟨⟨fn, nt, tm, k, defers, .run, deferred, roundOf⟩, callers, h⟩
            | o :: rest => goF P h o ⟨fn, nt, tm, .reg ops i (o :: rest) :: k, defers, .run, deferred, roundOf⟩ callers ((kOp P ops o).run h tm)
          | .dreg ops rest => match rest with
            | [] => some ⟨⟨fn, nt, tm, k, defers, .run, deferred, roundOf⟩, callers, h⟩
            | x :: rest => match x with
              | (i, chk) => match ops[i]? with
                | some o => goF P h o ⟨fn, nt, tm, .dreg ops ((i, chk) :: rest) :: k, defers, .run, deferred, roundOf⟩ callers ((kOp P ops o).run h tm)
                | none => none
          | .inBlock _ => some ⟨⟨fn, nt, tm, k, defers, .run, deferred, roundOf⟩, callers, h⟩
          | .inScope _ => some ⟨⟨fn, nt, tm, k, defers, .run, deferred, roundOf⟩, callers, h⟩
          | .inLoop body => some ⟨⟨fn, nt, tm, .code body :: .inLoop body :: k, defers, .run, deferred, roundOf⟩, callers, h⟩
          | it => exec P pl ⟨fn, nt, tm, it :: k, defers, .run, deferred, roundOf⟩ callers h
      | mode => unwindF P ⟨fn, nt, tm, todo, defers, mode, deferred, roundOf⟩ callers h
theorem astepF_eq (P : Program) (pl : Plans) (m : AMach) : astepF P pl m = astep P pl m := by
  obtain ⟨⟨fn, nt, tm, todo, defers, mode, deferred, roundOf⟩, callers, h⟩ := m
  unfold astep astepF
  cases mode with
  | returning => simp only [unwindF_eq]
  | panicking c => simp only [unwindF_eq]
  | run =>
    cases todo with
    | nil => rfl
    | cons it k =>
      cases it
      case code c => simp only [kCode_run]
      case reg ops i rest =>
        cases rest with
        | nil => rfl
        | cons o rest => exact goF_eq P h ops o ⟨fn, nt, tm, .reg ops i (o :: rest) :: k, defers, .run, deferred, roundOf⟩ callers
      case dreg ops rest =>
        cases rest with
        | nil => rfl
        | cons x rest =>
          obtain ⟨i, chk⟩ := x
          simp only [exec]
          cases ops[i]? with
          | none => rfl
          | some o => exact goF_eq P h ops o ⟨fn, nt, tm, .dreg ops ((i, chk) :: rest) :: k, defers, .run, deferred, roundOf⟩ callers
      all_goals rfl

def arunF (P : Program) (pl : Plans) : Nat → AMach → Option AMach
  | 0, m => some m
  | n + 1, m => match astepF P pl m with
    | some m => arunF P pl n m
    | none => none
theorem arunF_eq (P : Program) (pl : Plans) : ∀ (n : Nat) (m : AMach), arunF P pl n m = arun P pl n m
  | 0, m => rfl
  | n + 1, m => by
    simp only [arunF, arun, astepF_eq]
    cases astep P pl m with
    | none => rfl
    | some m => exact arunF_eq P pl n m
end
end Go.Abs
