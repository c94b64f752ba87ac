import Derived.Test.YtljmicpaheaemaaAbsExec2
namespace Go.Abs
open Go.RowKit (Below)
set_option linter.unusedSimpArgs false
set_option linter.unusedVariables false
section
variable {P : Program} {μ μ' : Mu} {I : Imm} {h h' : Heap} {w0 w w' : World}

/-- A frame that ends, whatever its heaps. -/
theorem StRel.ended {act act' : Bool} {lo hi lo' hi' : Nat} {h h' : Heap} {m : AMode} {todo : List AItem} {tm : Tr AV} {c c' : Frame} (x : Ext μ μ' I I) (hm : m ≠ .run) (e1 : c'.mode = c.mode) (e2 : c'.tmps = c.tmps) (r : StRel P μ I h act lo hi m todo tm c) : StRel P μ' I h' act' lo' hi' m todo tm c' := by
  cases r with
  | run a b => exact absurd rfl hm
  | ret a b => exact .ret (e1.trans a) (by rw [e2]; exact b.mono x)
  | pan a b d => exact .pan (e1.trans a) (b.mono x) (by rw [e2]; exact d.mono x)

theorem stepG_unwind {c : Frame} {cs : List Frame} (hm : c.mode ≠ .run) : stepG P true { frame := c, callers := cs, status := .running, dying := none } w = Go.unwind P true c cs none w := by
  obtain ⟨fn, tmps, todo, defers, mode, kind, roundOf⟩ := c
  cases mode with
  | run => exact absurd rfl hm
  | returning => rfl
  | panicking ch => rfl

theorem unwind_sim (K : ProgOk P) {f : AFrame} {c : Frame} {callers : List AFrame} {cs tl : List Frame} {lo : Nat} {m' : AMach} (e : Abs.unwind P f callers h = some m') (hlo : lo ≤ h.next) (hm : f.mode ≠ .run) (hF : FRel P μ I h true lo h.next f c)
    (hS : Stack P μ I h lo callers cs) (hW : WRel μ I w0 h w) : Sim P I w0 m' c cs tl w := by
  have hcm : c.mode ≠ .run := by
    have := hF.st
    intro z
    cases hmf : f.mode with
    | run => exact hm hmf
    | returning => rw [hmf] at this; cases this with | ret a b => rw [z] at a; cases a
    | panicking ch => rw [hmf] at this; cases this with | pan a b d => rw [z] at a; cases a
  have hstep : ∀ {c' : Frame} {cs' : List Frame} {w1 : World}, (Go.unwind P true c (cs ++ tl) none w).bare = .go { frame := c', callers := cs' ++ tl, status := .running, dying := none } w1 → step P (lone c (cs ++ tl) w) = .next (lone c' (cs' ++ tl) w1) := by
    intro c' cs' w1 hh
    refine step_lone_go ?_
    rw [stepG_unwind hcm]
    exact hh
  have hst2 : ∀ (ds : List Deferred) (h' : Heap) (act' : Bool) (lo' hi' : Nat), StRel P μ I h' act' lo' hi' f.mode f.todo f.tm { c with defers := ds } := fun ds h' a l hh => StRel.ended (c := c) (.refl _ _) hm rfl rfl hF.st
  unfold Abs.unwind at e
  have hds := hF.defers
  generalize hfd : f.defers = ads at e hds
  generalize hcd : c.defers = cds at hds
  cases hds with
  | nil =>
    simp only at e
    split at e
    · cases e
    · -- a panic goes on
      rename_i chain hmf
      split at e
      case h_2 => cases e
      case h_1 c1 rest =>
      simp at e
      subst e
      cases hS with
      | cons hF1 hlo1 hS1 =>
        rename_i lo1 cc cs1
        have hst := hF.st
        rw [hmf] at hst
        cases hst with
        | pan z1 z2 z3 =>
          rename_i b
          refine ⟨μ, cc.raise b, cs1, w, Steps.one (hstep ?_), ⟨⟨lo1, Nat.le_trans hlo1 hlo, raise_sim hF1 z2, hS1⟩, hW⟩⟩
          obtain ⟨fn, hfn⟩ := hF.has
          have hfn' : P.funcs[c.fn]? = some fn := by rw [hF.fn]; exact hfn
          have hcatch : c.catches P = false := by unfold Frame.catches; rw [hfn']
          unfold Go.unwind
          rw [hcd]
          simp only [z1, hcatch, Bool.false_eq_true, if_false, List.cons_append, GStep.bare_go]
    · -- a value is handed back
      rename_i hmf
      split at e
      case h_2 => cases e
      case h_1 fn hfn =>
      have hst := hF.st
      rw [hmf] at hst
      cases hst with
      | ret z1 z2 =>
        have hex : ∃ vs, aresults P h f.tm fn.results.toList = some vs ∧ areturn P f callers (packed vs) h = some m' := by
          cases hr : aresults P h f.tm fn.results.toList with
          | none => rw [hr] at e; cases e
          | some vs =>
            rw [hr] at e
            refine ⟨vs, rfl, ?_⟩
            cases vs with
            | nil => exact e
            | cons a b => cases b <;> exact e
        obtain ⟨vs, hr, e⟩ := hex
        obtain ⟨u, hu1, hu2⟩ := results_run (P := P) hW z2 hr
        obtain ⟨cc, cs', rfl, k1, k2⟩ := areturn_sim (tl := tl) e hlo hS hW hu2
        have hfn' : P.funcs[c.fn]? = some fn := by rw [hF.fn]; exact hfn
        have hun : (Go.unwind P true c (cc :: cs' ++ tl) none w).bare = (doReturn P true c (cc :: cs' ++ tl) none u w).bare := by
          unfold Go.unwind
          rw [hcd]
          simp only [z1, hfn', Sem.runT_eq, hu1, GStep.bare_after]
        cases hd : f.deferred with
        | false =>
          have hk : c.kind = .normal := by rw [hF.kind, hd]; rfl
          refine ⟨μ, cc.finish u, cs', w, Steps.one (hstep ?_), k1 hd⟩
          rw [hun]
          simp [doReturn, hk]
        | true =>
          have hk : c.kind = .deferred := by rw [hF.kind, hd]; rfl
          refine ⟨μ, _, cs', w, Steps.one (hstep ?_), k2 hd⟩
          rw [hun]
          simp only [doReturn, hk, List.cons_append]
          rfl
  | cons hd hds =>
    rename_i ad d ads cds
    cases hd with
    | collected hmu =>
      rename_i r B o N a args
      simp only at e
      split at e
      case h_2 => cases e
      case h_1 calls hg =>
      simp at e
      subst e
      obtain ⟨obj, ho, hor⟩ := hW.objs _ _ _ _ _ hg hmu
      cases hor with
      | deferredSome hcalls =>
        rename_i ccs
        have hrun := run_takeDeferred (P := P) ho
        have g : Goes P μ μ I w0 h (h.set r (.deferred none)) (w.putObj B (.deferred none)) := by
          refine ⟨.refl _ _, hW.update hg hmu .deferredNone, Nat.le_refl _, fun b hb e => ⟨e, ?_⟩⟩
          rw [Heap.get_set, if_neg (fun q => by subst q; rw [hmu] at e; cases e)]
        refine ⟨μ, { c with defers := ccs ++ cds }, cs, _, Steps.one (hstep ?_), ⟨⟨lo, hlo, ⟨hF.fn, hF.has, hF.kind, hF.round, hcalls.append hds, hF.size, hst2 _ _ _ _ _⟩, stack_goes g hlo hS⟩, g.rel⟩⟩
        unfold Go.unwind
        rw [hcd]
        simp only [Sem.runT_eq, hrun, GStep.bare_after, GStep.bare_go]
    | func hargs =>
      rename_i gf a cap args
      simp only at e
      split at e
      case h_2 => cases e
      case h_1 g he =>
      simp at e
      subst e
      have hE := enter_rel he hargs true h.next h.next h
      simp only [if_true] at hE
      have hbody : ∃ fn cd, P.funcs[gf]? = some fn ∧ fn.body = some cd := by
        unfold enter at he
        cases hf : P.funcs[gf]? with
        | none => rw [hf] at he; cases he
        | some fn =>
          rw [hf] at he
          simp only at he
          cases hb : fn.body with
          | none => rw [hb] at he; cases he
          | some cd => exact ⟨fn, cd, rfl, hb⟩
      obtain ⟨fn, cd, hf, hb⟩ := hbody
      refine ⟨μ, Frame.enter P gf (args ++ cap) .deferred, { c with defers := cds } :: cs, w, Steps.one (hstep ?_), ⟨⟨h.next, Nat.le_refl _, hE, .cons (lo := lo) ⟨hF.fn, hF.has, hF.kind, hF.round, hds, hF.size, hst2 _ _ _ _ _⟩ hlo hS⟩, hW⟩⟩
      unfold Go.unwind
      rw [hcd]
      simp only [callDeferred, Bool.false_and, Bool.false_eq_true, if_false, Sem.runT_eq, invoke, callFunc_run K hf hb, GStep.bare_after, GStep.bare_go, List.cons_append]

theorem astep_sim (K : ProgOk P) {pl : Plans} {m m' : AMach} {c : Frame} {cs tl : List Frame} (e : astep P pl m = some m') (r : MRel P μ I w0 m c cs w) : Sim P I w0 m' c cs tl w := by
  obtain ⟨⟨lo, hlo, hF, hS⟩, hW⟩ := r
  unfold astep at e
  split at e
  · rename_i hm
    exact exec_sim K e hlo hm hF hS hW
  · rename_i hm
    exact unwind_sim K e hlo hm hF hS hW

theorem arun_sim (K : ProgOk P) {pl : Plans} : ∀ (n : Nat) {m m' : AMach} {μ : Mu} {c : Frame} {cs tl : List Frame} {w : World}, arun P pl n m = some m' → MRel P μ I w0 m c cs w → Sim P I w0 m' c cs tl w
  | 0, m, m', μ, c, cs, tl, w, e, r => by simp [arun] at e; subst e; exact ⟨μ, c, cs, w, Steps.refl _ _, r⟩
  | n + 1, m, m', μ, c, cs, tl, w, e, r => by
    unfold arun at e
    cases h1 : astep P pl m with
    | none => rw [h1] at e; cases e
    | some m1 =>
      rw [h1] at e
      obtain ⟨μ1, c1, cs1, w1, s1, r1⟩ := astep_sim (tl := tl) K h1 r
      obtain ⟨μ2, c2, cs2, w2, s2, r2⟩ := arun_sim K n (tl := tl) e r1
      exact ⟨μ2, c2, cs2, w2, s1.trans s2, r2⟩

/-- The world in which a call begins. -/
theorem start_rel (w : World) (himm : ∀ B o v, I B o = some v → w.cell? ⟨B, o, none⟩ = some v) : WRel (fun _ => none) I w { next := 0, t := .nil } w :=
  ⟨Below.refl _ _, fun b ob e => by simp [Heap.get, Tr.get_nil] at e, fun b B o N e => by simp at e, fun b ob B o N e => by simp [Heap.get, Tr.get_nil] at e, fun b b' ob ob' B o N o' N' e => by simp [Heap.get, Tr.get_nil] at e,
    fun B o v e => ⟨himm B o v e, rfl, fun b ob o' N e => by simp [Heap.get, Tr.get_nil] at e⟩⟩

/-- A run of the abstract machine to the call's end is the model's call, in every world. -/
theorem calls_of_done (K : ProgOk P) {pl : Plans} {f : FuncId} {args : List AV} {as_ : Array Value} {fr : AFrame} {n : Nat} {m : AMach} {v : AV} (h0 : enter P f args false = some fr) (h1 : arun P pl n { fr, callers := [], h := { next := 0, t := .nil } } = some m) (h2 : done P f m = some v)
    (w : World) (himm : ∀ B o v, I B o = some v → w.cell? ⟨B, o, none⟩ = some v) (hargs : VRels (fun _ => none) I args as_.toList) :
    Calls P f as_ w fun e w' => ∃ μ u, e = .returned u ∧ VRel μ I v u ∧ Below w.heap.size w w' := by
  intro cs
  have hE := enter_rel h0 hargs true 0 0 { next := 0, t := .nil }
  simp only [Bool.false_eq_true, if_false] at hE
  have r0 : MRel P (fun _ => none) I w { fr, callers := [], h := { next := 0, t := .nil } } (Frame.enter P f as_ .normal) [] w := ⟨⟨0, Nat.le_refl _, hE, .nil⟩, start_rel w himm⟩
  obtain ⟨μ, c', cs', w', s, ⟨⟨lo, hlo, hF, hS⟩, hW⟩⟩ := arun_sim K n (tl := cs) h1 r0
  unfold done at h2
  split at h2
  case h_2 => cases h2
  case h_1 hc hm hd =>
  rw [hc] at hS
  cases hS
  obtain ⟨hq, h2⟩ := cond_some h2
  simp only [Bool.and_eq_true, Bool.not_eq_true'] at hq
  have hfn := beq_tt hq.1
  split at h2
  case h_2 => cases h2
  case h_1 fn hfn' =>
  have hex : ∃ vs, aresults P m.h m.fr.tm fn.results.toList = some vs ∧ packed vs = v := by
    cases hr : aresults P m.h m.fr.tm fn.results.toList with
    | none => rw [hr] at h2; cases h2
    | some vs =>
      rw [hr] at h2
      refine ⟨vs, rfl, ?_⟩
      cases vs with
      | nil => simp at h2; exact h2
      | cons a b => cases b <;> (simp at h2; exact h2)
  obtain ⟨vs, hr, rfl⟩ := hex
  have hst := hF.st
  rw [hm] at hst
  cases hst with
  | ret z1 z2 =>
    obtain ⟨u, hu1, hu2⟩ := results_run (P := P) hW z2 hr
    refine ⟨.returned u, w', c', ⟨μ, u, rfl, hu2, hW.below⟩, s, by rw [hF.fn, hfn], z1, ?_, by rw [hF.kind, hq.2]; rfl, fn, ?_, hu1⟩
    · have := hF.defers; rw [hd] at this; generalize c'.defers = ds at this; cases this; rfl
    · rw [hF.fn]; exact hfn'

end
end Go.Abs
