import Derived.Test.YtljmicpaheaemaaAbsMain
import Derived.RangeFuncNested
namespace Go.Abs
open Go.RowKit (Below)
set_option linter.unusedSimpArgs false
set_option linter.unusedVariables false
section
variable {P : Program} {μ μ' : Mu} {I : Imm} {h h' : Heap} {w0 w w' : World}

/-- What is shown of a step. -/
def Sim (P : Program) (I : Imm) (w0 : World) (m' : AMach) (c : Frame) (cs tl : List Frame) (w : World) : Prop :=
  ∃ μ' c' cs' w', Steps P (lone c (cs ++ tl) w) (lone c' (cs' ++ tl) w') ∧ MRel P μ' I w0 m' c' cs' w'

theorem Sim.head {m' : AMach} {c c1 : Frame} {cs cs1 tl : List Frame} {w w1 : World} (s : Steps P (lone c (cs ++ tl) w) (lone c1 (cs1 ++ tl) w1)) (h : Sim P I w0 m' c1 cs1 tl w1) : Sim P I w0 m' c cs tl w := by
  obtain ⟨μ', c', cs', w', h1, h2⟩ := h
  exact ⟨μ', c', cs', w', s.trans h1, h2⟩

theorem atR_eq {c : Frame} (hm : c.mode = .run) {todo : List Item} (ht : c.todo = todo) : c.atR ⟨c.tmps, c.defers⟩ todo = c := by
  subst ht
  obtain ⟨fn, tmps, todo, defers, mode, kind, roundOf⟩ := c
  simp only at hm
  subst hm
  rfl

theorem FRel.mode_run {act : Bool} {lo hi : Nat} {f : AFrame} {c : Frame} (r : FRel P μ I h act lo hi f c) (hm : f.mode = .run) : c.mode = .run ∧ TodoRel P μ I h act lo hi f.todo f.tm c.todo c.tmps := by
  have := r.st
  rw [hm] at this
  cases this with | run a b => exact ⟨a, b⟩

theorem goes_keep (g : Goes P μ μ' I w0 h h' w') {n : Nat} (hn : n ≤ h.next) : KeepBelow n μ μ' h h' := fun b hb e => g.keep b (Nat.lt_of_lt_of_le hb hn) e

theorem aheavy_defer {tm : Tr AV} {o : Oper} {c : Call} {n : ANext} (hq : o.op = .defer c) (e : aheavy P h tm o = some (n, h')) : ∃ d, n = .defer d := by
  obtain ⟨dst, op, type, pos, after, guard⟩ := o
  simp only at hq
  subst hq
  obtain ⟨callee, args, argTypes⟩ := c
  cases callee <;> simp only [aheavy] at e <;> first | (cases e; done) | skip
  split at e
  · simp at e
    exact ⟨_, e.1.symm⟩
  · cases e

/-- An operation at which the frame stands. -/
theorem aoper_sim (K : ProgOk P) {f : AFrame} {c : Frame} {callers : List AFrame} {cs tl : List Frame} {m' : AMach} {lo hi : Nat} {ops : Array Oper} {o : Oper} {i : Nat} {rest : List Nat} {kc : List Item}
    (e : aoper P f callers h ops o = some m') (hm : f.mode = .run) (hF : FRel P μ I h false lo hi f c) (hlo : lo ≤ hi) (hhi : hi ≤ h.next) (hS : Stack P μ I h lo callers cs) (hW : WRel μ I w0 h w)
    (hct : c.todo = .inRegion ops (i :: rest) :: kc) (ho : ops[i]? = some o)
    (hev : ∀ x ∈ o.op.operands.toList, VRel μ I (evalOp f.tm x) (Act.eval ⟨c.tmps, c.defers⟩ x)) (hgd : ∀ b, awanted ops f.tm o = some b → Region.wanted o (yielded ops c.tmps) = b) :
    Sim P I w0 m' c cs tl w := by
  obtain ⟨hcm, _⟩ := hF.mode_run hm
  have hc := atR_eq hcm hct
  unfold aoper at e
  -- a value, and heaps that have gone on
  have value : ∀ {μ' : Mu} {h' : Heap} {w' : World} {v : AV} {u : Value} {f' : AFrame}, Goes P μ μ' I w0 h h' w' → VRel μ' I v u → afinish P h' f v = some f' → step P (lone c (cs ++ tl) w) = .next (lone (c.finish u) (cs ++ tl) w') →
      Sim P I w0 { fr := f', callers, h := h' } c cs tl w := by
    intro μ' h' w' v u f' g hv he hs
    have hF' := hF.mono g.ext (goes_keep g hhi)
    refine ⟨μ', c.finish u, cs, w', Steps.one hs, ⟨⟨lo, ?_, (finish_sim he hm hF' hv).widen (Nat.le_refl _) (Nat.le_trans hhi g.next), hS.mono g.ext (goes_keep g (Nat.le_trans hlo hhi))⟩, g.rel⟩⟩
    exact Nat.le_trans hlo (Nat.le_trans hhi g.next)
  split at e
  · rename_i hw
    have hwc := hgd _ hw
    split at e
    · -- light
      rename_i v hv
      split at e
      · rename_i f' he
        simp at e
        subst e
        obtain ⟨u, h1, h2⟩ := alight_run (P := P) hW hv hev
        have hnd : ∀ c', o.op ≠ .defer c' := by
          intro c' hq; unfold alight at hv; rw [hq] at hv; cases hv
        refine value (.refl hW) h2 he ?_
        have := stepR_value (P := P) (b := c) (a := ⟨c.tmps, c.defers⟩) (k := kc) (cs := cs ++ tl) (w := w) (rest := rest) ho hwc (by rw [Oper.semAt_eq _ _ _ hnd]; exact h1)
        rw [hc] at this
        exact this
      · cases e
    · rename_i hnl
      split at e
      · -- a new block
        rename_i ob v hv
        split at e
        · rename_i f' he
          simp at e
          subst e
          obtain ⟨q, u, N, h1, h2⟩ := afresh_run (P := P) hv hev w
          have hx1 : Ext μ (upd μ h.next (w.heap.size, 0, N)) I I := .upd hW.next_none
          obtain ⟨h3, h4⟩ := h2 _ hx1 (upd_self _ _ _)
          have hnd : ∀ c', o.op ≠ .defer c' := by
            intro c' hq; unfold afresh at hv; rw [hq] at hv; cases hv
          refine value (goes_push hW h3) h4 he ?_
          have := stepR_value (P := P) (b := c) (a := ⟨c.tmps, c.defers⟩) (k := kc) (cs := cs ++ tl) (w := w) (rest := rest) ho hwc (by rw [Oper.semAt_eq _ _ _ hnd]; exact h1)
          rw [hc] at this
          exact this
        · cases e
      · split at e
        · -- heavy
          rename_i n h' hv
          obtain ⟨μ', w', g, hR⟩ := aheavy_run K hW hv hev
          have hsem : Oper.semAt c.roundOf (Act.eval ⟨c.tmps, c.defers⟩) o = execOp (Act.eval ⟨c.tmps, c.defers⟩) o := by
            by_cases hq : ∃ c', o.op = .defer c'
            · obtain ⟨c', hq⟩ := hq
              -- a deferred call within a round is not taken in
              have hro : f.roundOf = none := by
                obtain ⟨d, rfl⟩ := aheavy_defer hq hv
                simp only [apply] at e
                split at e
                · assumption
                · cases e
              have := hF.round
              rw [hro] at this
              rw [this.none_inv]
              rfl
            · exact Oper.semAt_eq _ _ _ fun c' hc' => hq ⟨c', hc'⟩
          obtain ⟨c', cs', w'', h1, h2⟩ := apply_sim (tl := tl) K e hm (hF.mono g.ext (goes_keep g hhi)) hlo (Nat.le_trans hhi g.next) (hS.mono g.ext (goes_keep g (Nat.le_trans hlo hhi))) g.rel hR
          refine ⟨μ', c', cs', w'', Steps.one (step_lone_go ?_), h2⟩
          have := stepGR_op (P := P) (b := c) (a := ⟨c.tmps, c.defers⟩) (k := kc) (cs := cs ++ tl) (w := w) (rest := rest) ho hwc
          rw [hc, hsem] at this
          rw [this]
          exact h1
        · cases e
  · rename_i hw
    have hwc := hgd _ hw
    split at e
    · rename_i f' he
      simp at e
      subst e
      refine value (u := undef) (.refl hW) (.tuple .nil) he ?_
      have := stepR_op_skip (P := P) (b := c) (a := ⟨c.tmps, c.defers⟩) (k := kc) (cs := cs ++ tl) (w := w) (ops := ops) (i := i) (rest := rest) (by rw [ho]; simpa using hwc)
      rw [← Frame.finish_atR, hc] at this
      exact this
    · cases e
  · cases e

theorem exit_rel {id : Nat} {k : List AItem} {kc : List Item} (r : ItRels μ k kc) : (∀ k', aexitTo id k = some k' → ∃ kc', exitTo id kc = some kc' ∧ ItRels μ k' kc') ∧ (aexitTo id k = none → exitTo id kc = none) := by
  induction r with
  | nil => exact ⟨fun k' e => by simp [aexitTo] at e, fun _ => rfl⟩
  | cons a b ih =>
    cases a
    case inBlock n =>
      simp only [aexitTo, exitTo]
      cases hb : Nat.beq n id with
      | true =>
        have := beq_tt hb
        subst this
        refine ⟨fun k' e => ?_, fun e => by simp at e⟩
        simp at e
        subst e
        exact ⟨_, by simp, b⟩
      | false =>
        have hn : (n == id) = false := by simpa using beq_ff hb
        rw [hn]
        simpa using ih
    all_goals (simp only [aexitTo, exitTo]; exact ih)

theorem aresults_run (W : WRel μ I w0 h w) {tm : Tr AV} {tmps : Array Value} (ht : TRel μ I tm tmps) : ∀ {l : List ResultVar} {vs : List AV}, aresults P h tm l = some vs →
    ∃ us : List Value, (l.mapM fun | .tmp t => pure (tmps.getD t undef) | .cell a t => do loadVar t (← asAddr (tmps.getD a undef)) : Sem (List Value)).run P w = .ok us w ∧ VRels μ I vs us
  | [], vs, e => by simp [aresults] at e; subst e; exact ⟨[], by simp, .nil⟩
  | .tmp t :: l, vs, e => by
    simp only [aresults] at e
    cases h1 : aresults P h tm l with
    | none => rw [h1] at e; simp at e
    | some vs' =>
      rw [h1] at e
      simp at e
      subst e
      obtain ⟨us, k1, k2⟩ := aresults_run W ht h1
      refine ⟨tmps.getD t undef :: us, ?_, .cons ?_ k2⟩
      · simp only [List.mapM_cons, Sem.run_bind, Sem.run_pure, Result.andThen_ok, k1]
      · have := evalOp_rel (μ := μ) (I := I) (tm := tm) (tmps := tmps) (x := .tmp t) (ds := []) (fun t' _ v hv => ht t' v hv)
        exact this
  | .cell a t :: l, vs, e => by
    simp only [aresults] at e
    split at e
    · rename_i v vs' h0 h1
      simp at e
      subst e
      obtain ⟨us, k1, k2⟩ := aresults_run W ht h1
      have hr : VRel μ I (tmGet tm a) (tmps.getD a undef) := evalOp_rel (μ := μ) (I := I) (tm := tm) (tmps := tmps) (x := .tmp a) (ds := []) (fun t' _ v hv => ht t' v hv)
      obtain ⟨u, k3, k4⟩ := aload_run (P := P) W h0 hr
      refine ⟨u :: us, ?_, .cons k4 k2⟩
      have : (asAddr (tmps.getD a undef) >>= fun x => loadVar t x).run P w = .ok u w := by
        unfold Instr.loadAt at k3
        generalize tmps.getD a undef = x at k3 hr ⊢
        unfold aload at h0
        split at h0
        · rename_i cs hrow
          obtain ⟨B, o, rfl, _⟩ := rowAt_rel W hrow hr
          simpa [asAddr, Instr.sureAddr] using k3
        · cases h0
      simp only [List.mapM_cons, Sem.run_bind, Sem.run_pure] at this ⊢
      rw [this]
      simp only [Result.andThen_ok, k1]
    · cases e

/-- The value that a frame hands back. -/
def packed : List AV → AV
  | [v] => v
  | vs => .tuple vs

theorem results_run (W : WRel μ I w0 h w) {tm : Tr AV} {tmps : Array Value} (ht : TRel μ I tm tmps) {fn : Func} {vs : List AV} (e : aresults P h tm fn.results.toList = some vs) :
    ∃ u, (results fn tmps).run P w = .ok u w ∧ VRel μ I (packed vs) u := by
  obtain ⟨us, k1, k2⟩ := aresults_run W ht e
  unfold results
  rw [Array.mapM_eq_mapM_toList]
  refine ⟨if h : us.toArray.size = 1 then us.toArray[0] else .tuple us.toArray, ?_, ?_⟩
  · simp only [Sem.run_bind, Sem.run_map]
    generalize hX : Sem.run P (List.mapM _ fn.results.toList) w = X
    have hX' : X = .ok us w := hX.symm.trans k1
    rw [hX']
    simp only [Result.andThen_ok, Sem.run_pure]
  · cases k2 with
    | nil => simp only [packed]; exact .tuple .nil
    | cons a b =>
      cases b with
      | nil => simp only [packed]; exact a
      | cons b c =>
        simp only [packed]
        rw [dif_neg (by simp)]
        exact .tuple (.cons a (.cons b c))

end
end Go.Abs
