import Derived.Test.YtljmicpaheaemaaAbsSim
namespace Go.Abs
open Go.RowKit (Below)
set_option linter.unusedSimpArgs false
set_option linter.unusedVariables false

inductive ItRel (μ : Mu) : AItem → Item → Prop
  | code (c : Code) : ItRel μ (.code c) (.code c)
  | inBlock (id : Nat) : ItRel μ (.inBlock id) (.inBlock id)
  | inLoop (b : Code) : ItRel μ (.inLoop b) (.inLoop b)
  | inScope (b : Code) : ItRel μ (.inScope b) (.inScope b)
  | reg (ops : Array Oper) (i : Nat) : ItRel μ (.reg ops i (ops.toList.drop i)) (.inRegion ops (List.range' i (ops.size - i)))
  | inRangeFunc {l B o N : Nat} : μ l = some (B, o, N) → ItRel μ (.inRangeFunc l) (.inRangeFunc B)
  | endRangeFunc {l B o N : Nat} : μ l = some (B, o, N) → ItRel μ (.endRangeFunc l) (.endRangeFunc B)
  | beginRound : ItRel μ .beginRound .beginRound
inductive ItRels (μ : Mu) : List AItem → List Item → Prop
  | nil : ItRels μ [] []
  | cons {a : AItem} {c : Item} {as_ : List AItem} {cs : List Item} : ItRel μ a c → ItRels μ as_ cs → ItRels μ (a :: as_) (c :: cs)

inductive ChRel (μ : Mu) (I : Imm) : List APanic → List PanicEntry → Prop
  | nil : ChRel μ I [] []
  | cons {v : AV} {u : Value} {r : Bool} {a : List APanic} {c : List PanicEntry} : VRel μ I v u → ChRel μ I a c → ChRel μ I ({ v, recovered := r } :: a) ({ v := u, recovered := r } :: c)

/-- Does it make a block? -/
def isNew (o : Oper) : Bool :=
  match o.op with
  | .alloc _ | .box .. | .buildSlice .. | .makeSlice .. | .makeMap .. => true
  | _ => false

/-- Not in the rest of the plan. -/
def Gone (restA : List (Nat × List Nat)) (i : Nat) : Prop := ∀ x ∈ restA, x.1 ≠ i

/-- What is known of an operation that the abstract machine has carried out and the model has not. -/
def Pend (P : Program) (μ : Mu) (h : Heap) (act : Bool) (lo hi : Nat) (ops : Array Oper) (tm : Tr AV) (o : Oper) (d : Nat) (β : Nat) : Prop :=
  match awanted ops tm o with
  | some true => if isNew o = true then ∃ ob, afresh P β tm o = some (ob, tmGet tm d) ∧ μ β = none ∧ h.get β = some ob ∧ lo ≤ β ∧ β < hi
      else (act = true ∨ reads o = false) → alight P h tm o = some (tmGet tm d)
  | some false => tmGet tm d = .tuple []
  | none => False

structure DReg (P : Program) (μ : Mu) (I : Imm) (h : Heap) (act : Bool) (lo hi : Nat) (ops : Array Oper) (plan : List (Nat × List Nat)) (β : Nat → Nat) (restA : List (Nat × List Nat)) (restC : List Nat) (tm : Tr AV) (tmps : Array Value) : Prop where
  ok : PlanOk ops plan
  pre : ∃ pre, plan = pre ++ restA
  lin : ∃ doneC, Lin ops (doneC ++ restC)
  sub : ∀ x ∈ restA, x.1 ∈ restC
  pend : ∀ i ∈ restC, Gone restA i → ∃ o d, ops[i]? = some o ∧ o.dst = some d ∧ late o = true ∧ d < tmps.size ∧ Pend P μ h act lo hi ops tm o d (β i)
  inj : ∀ i ∈ restC, ∀ j ∈ restC, Gone restA i → Gone restA j → ∀ o o', ops[i]? = some o → ops[j]? = some o' → isNew o = true → isNew o' = true → awanted ops tm o = some true → awanted ops tm o' = some true → β i = β j → i = j
  tms : ∀ t v, tm.get t = some v → (∀ i ∈ restC, Gone restA i → ∀ o, ops[i]? = some o → o.dst ≠ some t) → VRel μ I v (tmps.getD t undef)

inductive TodoRel (P : Program) (μ : Mu) (I : Imm) (h : Heap) (act : Bool) (lo hi : Nat) : List AItem → Tr AV → List Item → Array Value → Prop
  | plain {todo : List AItem} {tm : Tr AV} {todoc : List Item} {tmps : Array Value} : ItRels μ todo todoc → TRel μ I tm tmps → TodoRel P μ I h act lo hi todo tm todoc tmps
  | drawn {ops : Array Oper} {plan restA : List (Nat × List Nat)} {β : Nat → Nat} {restC : List Nat} {k : List AItem} {kc : List Item} {tm : Tr AV} {tmps : Array Value} :
      ItRels μ k kc → DReg P μ I h act lo hi ops plan β restA restC tm tmps →
      (act = false → ∃ i c ra rc o, restA = (i, c) :: ra ∧ restC = i :: rc ∧ ops[i]? = some o ∧ late o = false) → TodoRel P μ I h act lo hi (.dreg ops restA :: k) tm (.inRegion ops restC :: kc) tmps

inductive StRel (P : Program) (μ : Mu) (I : Imm) (h : Heap) (act : Bool) (lo hi : Nat) : AMode → List AItem → Tr AV → Frame → Prop
  | run {todo : List AItem} {tm : Tr AV} {c : Frame} : c.mode = .run → TodoRel P μ I h act lo hi todo tm c.todo c.tmps → StRel P μ I h act lo hi .run todo tm c
  | ret {todo : List AItem} {tm : Tr AV} {c : Frame} : c.mode = .returning → TRel μ I tm c.tmps → StRel P μ I h act lo hi .returning todo tm c
  | pan {todo : List AItem} {tm : Tr AV} {c : Frame} {a : List APanic} {b : List PanicEntry} : c.mode = .panicking b → ChRel μ I a b → TRel μ I tm c.tmps → StRel P μ I h act lo hi (.panicking a) todo tm c

inductive RoundRel (μ : Mu) : Option Nat → Option Nat → Prop
  | none : RoundRel μ none none
  | some {l B o N : Nat} : μ l = some (B, o, N) → RoundRel μ (some l) (some B)

structure FRel (P : Program) (μ : Mu) (I : Imm) (h : Heap) (act : Bool) (lo hi : Nat) (f : AFrame) (c : Frame) : Prop where
  fn : c.fn = f.fn
  has : ∃ fn, P.funcs[f.fn]? = some fn
  kind : c.kind = if f.deferred = true then .deferred else .normal
  round : RoundRel μ f.roundOf c.roundOf
  defers : DRels μ I f.defers c.defers
  size : c.tmps.size = f.nt
  st : StRel P μ I h act lo hi f.mode f.todo f.tm c

/-- The callers; 'ub': what they wait for lies below. -/
inductive Stack (P : Program) (μ : Mu) (I : Imm) (h : Heap) : Nat → List AFrame → List Frame → Prop
  | nil {ub : Nat} : Stack P μ I h ub [] []
  | cons {ub lo : Nat} {f : AFrame} {c : Frame} {fs : List AFrame} {cs : List Frame} : FRel P μ I h false lo ub f c → lo ≤ ub → Stack P μ I h lo fs cs → Stack P μ I h ub (f :: fs) (c :: cs)

structure MRel (P : Program) (μ : Mu) (I : Imm) (w0 : World) (m : AMach) (c : Frame) (cs : List Frame) (w : World) : Prop where
  frame : ∃ lo, lo ≤ m.h.next ∧ FRel P μ I m.h true lo m.h.next m.fr c ∧ Stack P μ I m.h lo m.callers cs
  world : WRel μ I w0 m.h w

/-! ### How they are kept -/
section
variable {P : Program} {μ μ' : Mu} {I : Imm} {h h' : Heap} {w0 w : World}

theorem ItRel.mono (x : ∀ b y, μ b = some y → μ' b = some y) {a : AItem} {c : Item} (r : ItRel μ a c) : ItRel μ' a c := by
  cases r with
  | code c => exact .code c
  | inBlock id => exact .inBlock id
  | inLoop b => exact .inLoop b
  | inScope b => exact .inScope b
  | reg ops i => exact .reg ops i
  | inRangeFunc e => exact .inRangeFunc (x _ _ e)
  | endRangeFunc e => exact .endRangeFunc (x _ _ e)
  | beginRound => exact .beginRound
theorem ItRels.mono (x : ∀ b y, μ b = some y → μ' b = some y) {a : List AItem} {c : List Item} (r : ItRels μ a c) : ItRels μ' a c := by
  induction r with
  | nil => exact .nil
  | cons h _ ih => exact .cons (h.mono x) ih
theorem ChRel.mono (x : Ext μ μ' I I) {a : List APanic} {c : List PanicEntry} (r : ChRel μ I a c) : ChRel μ' I a c := by
  induction r with
  | nil => exact .nil
  | cons h _ ih => exact .cons (h.mono x) ih
theorem ChRel.append {a b : List APanic} {c d : List PanicEntry} (r : ChRel μ I a c) (q : ChRel μ I b d) : ChRel μ I (a ++ b) (c ++ d) := by
  induction r with
  | nil => exact q
  | cons h _ ih => exact .cons h ih
theorem RoundRel.mono (x : Ext μ μ' I I) {a b : Option Nat} (r : RoundRel μ a b) : RoundRel μ' a b := by
  cases r with
  | none => exact .none
  | some e => exact .some (x.mu _ _ e)

/-- What is below 'n' is as it was. -/
def KeepBelow (n : Nat) (μ μ' : Mu) (h h' : Heap) : Prop := ∀ b, b < n → μ b = none → μ' b = none ∧ h'.get b = h.get b

theorem Pend.mono {hi : Nat} (k : KeepBelow hi μ μ' h h') {lo : Nat} {ops : Array Oper} {tm : Tr AV} {o : Oper} {d β : Nat} (p : Pend P μ h false lo hi ops tm o d β) : Pend P μ' h' false lo hi ops tm o d β := by
  unfold Pend at p ⊢
  cases hw : awanted ops tm o with
  | none => rw [hw] at p; exact p
  | some b =>
    rw [hw] at p
    cases b with
    | false => exact p
    | true =>
      simp only at p ⊢
      split at p
      · rename_i hn
        obtain ⟨ob, h1, h2, h3, h4, h5⟩ := p
        obtain ⟨k1, k2⟩ := k β h5 h2
        rw [if_pos hn]
        exact ⟨ob, h1, k1, by rw [k2]; exact h3, h4, h5⟩
      · rename_i hn
        rw [if_neg hn]
        intro hr
        have hr' : reads o = false := hr.resolve_left (by simp)
        rw [alight_pure (h' := h) hr']
        exact p (.inr hr')

theorem DReg.mono {hi : Nat} (x : Ext μ μ' I I) (k : KeepBelow hi μ μ' h h') {lo : Nat} {ops : Array Oper} {plan restA : List (Nat × List Nat)} {β : Nat → Nat} {restC : List Nat} {tm : Tr AV} {tmps : Array Value}
    (r : DReg P μ I h false lo hi ops plan β restA restC tm tmps) : DReg P μ' I h' false lo hi ops plan β restA restC tm tmps :=
  ⟨r.ok, r.pre, r.lin, r.sub, fun i hi hg => let ⟨o, d, h1, h2, h3, h5, h4⟩ := r.pend i hi hg; ⟨o, d, h1, h2, h3, h5, h4.mono k⟩, r.inj, fun t v e hn => (r.tms t v e hn).mono x⟩

theorem TodoRel.mono {hi : Nat} (x : Ext μ μ' I I) (k : KeepBelow hi μ μ' h h') {lo : Nat} {todo : List AItem} {tm : Tr AV} {todoc : List Item} {tmps : Array Value} (r : TodoRel P μ I h false lo hi todo tm todoc tmps) :
    TodoRel P μ' I h' false lo hi todo tm todoc tmps := by
  cases r with
  | plain a b => exact .plain (a.mono x.mu) (b.mono x)
  | drawn a b c => exact .drawn (a.mono x.mu) (b.mono x k) c

theorem StRel.mono {hi : Nat} (x : Ext μ μ' I I) (k : KeepBelow hi μ μ' h h') {lo : Nat} {m : AMode} {todo : List AItem} {tm : Tr AV} {c : Frame} (r : StRel P μ I h false lo hi m todo tm c) : StRel P μ' I h' false lo hi m todo tm c := by
  cases r with
  | run a b => exact .run a (b.mono x k)
  | ret a b => exact .ret a (b.mono x)
  | pan a b c => exact .pan a (b.mono x) (c.mono x)

theorem FRel.mono {hi : Nat} (x : Ext μ μ' I I) (k : KeepBelow hi μ μ' h h') {lo : Nat} {f : AFrame} {c : Frame} (r : FRel P μ I h false lo hi f c) : FRel P μ' I h' false lo hi f c :=
  ⟨r.fn, r.has, r.kind, r.round.mono x, r.defers.mono x, r.size, r.st.mono x k⟩

theorem Stack.mono (x : Ext μ μ' I I) {ub : Nat} {fs : List AFrame} {cs : List Frame} (r : Stack P μ I h ub fs cs) (k : KeepBelow ub μ μ' h h') : Stack P μ' I h' ub fs cs := by
  induction r with
  | nil => exact .nil
  | cons a b _ ih => exact .cons (a.mono x k) b (ih fun c hc e => k c (Nat.lt_of_lt_of_le hc b) e)

/-- A running frame waits. -/
theorem Pend.wait {lo hi : Nat} {ops : Array Oper} {tm : Tr AV} {o : Oper} {d β : Nat} (p : Pend P μ h true lo hi ops tm o d β) : Pend P μ h false lo hi ops tm o d β := by
  unfold Pend at p ⊢
  cases hw : awanted ops tm o with
  | none => rw [hw] at p; exact p
  | some b =>
    rw [hw] at p
    cases b with
    | false => exact p
    | true =>
      simp only at p ⊢
      split at p
      · rename_i hn; rw [if_pos hn]; exact p
      · rename_i hn; rw [if_neg hn]; intro hr; exact p (Or.inl (by simp))

theorem Pend.widen {act : Bool} {lo lo' hi hi' : Nat} (h1 : lo' ≤ lo) (h2 : hi ≤ hi') {ops : Array Oper} {tm : Tr AV} {o : Oper} {d β : Nat} (p : Pend P μ h act lo hi ops tm o d β) : Pend P μ h act lo' hi' ops tm o d β := by
  unfold Pend at p ⊢
  cases hw : awanted ops tm o with
  | none => rw [hw] at p; exact p
  | some b =>
    rw [hw] at p
    cases b with
    | false => exact p
    | true =>
      simp only at p ⊢
      split at p
      · rename_i hn; rw [if_pos hn]
        obtain ⟨ob, a1, a2, a3, a4, a5⟩ := p
        exact ⟨ob, a1, a2, a3, by omega, by omega⟩
      · rename_i hn; rw [if_neg hn]; exact p

theorem DReg.widen {act : Bool} {lo lo' hi hi' : Nat} (h1 : lo' ≤ lo) (h2 : hi ≤ hi') {ops : Array Oper} {plan restA : List (Nat × List Nat)} {β : Nat → Nat} {restC : List Nat} {tm : Tr AV} {tmps : Array Value}
    (r : DReg P μ I h act lo hi ops plan β restA restC tm tmps) : DReg P μ I h act lo' hi' ops plan β restA restC tm tmps :=
  ⟨r.ok, r.pre, r.lin, r.sub, fun i hi hg => let ⟨o, d, a1, a2, a3, a5, a4⟩ := r.pend i hi hg; ⟨o, d, a1, a2, a3, a5, a4.widen h1 h2⟩, r.inj, r.tms⟩

theorem TodoRel.widen {act : Bool} {lo lo' hi hi' : Nat} (h1 : lo' ≤ lo) (h2 : hi ≤ hi') {todo : List AItem} {tm : Tr AV} {todoc : List Item} {tmps : Array Value} (r : TodoRel P μ I h act lo hi todo tm todoc tmps) :
    TodoRel P μ I h act lo' hi' todo tm todoc tmps := by
  cases r with
  | plain a b => exact .plain a b
  | drawn a b c => exact .drawn a (b.widen h1 h2) c
theorem StRel.widen {act : Bool} {lo lo' hi hi' : Nat} (h1 : lo' ≤ lo) (h2 : hi ≤ hi') {m : AMode} {todo : List AItem} {tm : Tr AV} {c : Frame} (r : StRel P μ I h act lo hi m todo tm c) : StRel P μ I h act lo' hi' m todo tm c := by
  cases r with
  | run a b => exact .run a (b.widen h1 h2)
  | ret a b => exact .ret a b
  | pan a b c => exact .pan a b c
theorem FRel.widen {act : Bool} {lo lo' hi hi' : Nat} (h1 : lo' ≤ lo) (h2 : hi ≤ hi') {f : AFrame} {c : Frame} (r : FRel P μ I h act lo hi f c) : FRel P μ I h act lo' hi' f c :=
  ⟨r.fn, r.has, r.kind, r.round, r.defers, r.size, r.st.widen h1 h2⟩

/-! ### Temporaries -/
theorem TRel.set {tm : Tr AV} {tmps : Array Value} (r : TRel μ I tm tmps) {d : Nat} {v : AV} {u : Value} (hd : d < tmps.size) (q : VRel μ I v u) : TRel μ I (tm.set d v) (tmps.setIfInBounds d u) := by
  intro t x e
  rw [Tr.get_set] at e
  split at e
  · rename_i ht; subst ht; cases e
    simpa [Array.getD_eq_getD_getElem?, hd] using q
  · rename_i ht
    have := r t x e
    rw [Array.getD_eq_getD_getElem?] at this ⊢
    rw [Array.getElem?_setIfInBounds_ne (Ne.symm ht)]
    exact this

theorem evalOp_rel {tm : Tr AV} {tmps : Array Value} {x : Operand} {ds : List Deferred} (hx : ∀ t, x = .tmp t → ∀ v, tm.get t = some v → VRel μ I v (tmps.getD t undef)) : VRel μ I (evalOp tm x) (Act.eval { tmps, defers := ds } x) := by
  cases x with
  | tmp t =>
    simp only [evalOp, tmGet, Act.eval]
    cases e : tm.get t with
    | none => exact .bad _
    | some v => exact hx t rfl v e
  | const v => exact ofV_rel v
  | global g => exact .bad _
  | func f => exact .func (by simp; exact .nil) (by simp; exact .nil)

theorem tmSet_spec {nt : Nat} {tm tm' : Tr AV} {d : Option Tmp} {v : AV} (e : tmSet nt tm d v = some tm') : (d = none ∧ tm' = tm) ∨ ∃ t, d = some t ∧ t < nt ∧ tm' = tm.set t v := by
  cases d with
  | none => simp [tmSet] at e; exact .inl ⟨rfl, e.symm⟩
  | some t =>
    simp only [tmSet] at e
    obtain ⟨h1, e⟩ := cond_some e
    simp at e
    exact .inr ⟨t, rfl, blt_lt h1, e.symm⟩

/-- A guard, on both sides. -/
theorem awanted_rel {ops : Array Oper} {tm : Tr AV} {tmps : Array Value} {o : Oper} {b : Bool} (e : awanted ops tm o = some b) (hx : ∀ t ∈ guardTmp ops o, ∀ v, tm.get t = some v → VRel μ I v (tmps.getD t undef)) :
    Region.wanted o (yielded ops tmps) = b := by
  unfold awanted at e
  unfold Region.wanted
  cases hg : o.guard with
  | none => rw [hg] at e; simp at e; simp [e]
  | some jw =>
    obtain ⟨j, want⟩ := jw
    rw [hg] at e
    simp only at e ⊢
    cases hj : ops[j]? with
    | none => rw [hj] at e; cases e
    | some g =>
      rw [hj] at e
      simp only at e
      cases hd : g.dst with
      | none => rw [hd] at e; cases e
      | some d =>
        rw [hd] at e
        simp only at e
        have hmem : d ∈ guardTmp ops o := by simp [guardTmp, hg, hj, hd]
        have hx := hx d hmem
        simp only [tmGet] at e
        unfold yielded
        simp only [hj, hd, Option.bind_some]
        cases hv : tm.get d with
        | none => rw [hv] at e; simp at e
        | some v =>
          rw [hv] at e
          have hr := hx v hv
          rw [Array.getD_eq_getD_getElem?] at hr
          cases v <;> simp only at e <;> first | (cases e; done) | skip
          case bool q =>
            cases hq : tmps[d]? with
            | none => rw [hq] at hr; simp [undef] at hr; cases hr
            | some u =>
              rw [hq] at hr
              simp at hr e
              cases hr
              subst e
              cases q <;> cases want <;> rfl
          case tuple l =>
            cases l with
            | cons _ _ => cases e
            | nil =>
              simp at e
              subst e
              cases hq : tmps[d]? with
              | none => simp
              | some u =>
                rw [hq] at hr
                simp at hr
                cases hr
                simp

end
end Go.Abs
