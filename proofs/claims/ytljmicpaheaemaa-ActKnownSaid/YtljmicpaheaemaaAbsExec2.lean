import Derived.Test.YtljmicpaheaemaaAbsExec
namespace Go.Abs
open Go.RowKit (Below)
set_option linter.unusedSimpArgs false
set_option linter.unusedVariables false

theorem stepR_scope' {P : Program} {b : Frame} {a : Act} {k : List Item} {cs : List Frame} {w : World} {c : Code} :
    step P (lone (b.atR a (.code (.scope c) :: k)) cs w) = .next (lone (b.atR a (.code c :: .inScope c :: k)) cs w) :=
  step_lone_go (by simp [stepG, stepG.exec, Frame.atR])
theorem stepR_inScope' {P : Program} {b : Frame} {a : Act} {k : List Item} {cs : List Frame} {w : World} {c : Code} : step P (lone (b.atR a (.inScope c :: k)) cs w) = .next (lone (b.atR a k) cs w) :=
  step_lone_go (by simp [stepG, stepG.exec, Frame.atR])
section
variable {P : Program} {μ μ' : Mu} {I : Imm} {h h' : Heap} {w0 w w' : World}

theorem getLoop_spec {l : Nat} {r : ALoop} (e : getLoop h l = some r) : h.get l = some (.loop r) := by
  unfold getLoop at e
  split at e
  · rename_i q; cases e; exact q
  · cases e

/-- A loop's record is written. -/
theorem loop_update (W : WRel μ I w0 h w) {l B o N : Nat} {r r' : ALoop} {L L' : Loop} (hg : h.get l = some (.loop r)) (hm : μ l = some (B, o, N)) (hr : LRel μ I r' L') :
    Goes P μ μ I w0 h (h.set l (.loop r')) (w.putObj B (.loop L')) := by
  refine ⟨.refl _ _, W.update hg hm (.loop hr), Nat.le_refl _, fun b hb e => ⟨e, ?_⟩⟩
  rw [Heap.get_set, if_neg (fun q => by subst q; rw [hm] at e; cases e)]

theorem loop_at (W : WRel μ I w0 h w) {l B o N : Nat} {r : ALoop} (hg : h.get l = some (.loop r)) (hm : μ l = some (B, o, N)) : ∃ L, w.heap[B]? = some (.loop L) ∧ LRel μ I r L := by
  obtain ⟨obj, ho, hor⟩ := W.objs _ _ _ _ _ hg hm
  cases hor with
  | loop hl => exact ⟨_, ho, hl⟩

theorem RoundRel.some_inv {l : Nat} {x : Option Nat} (r : RoundRel μ (Option.some l) x) : ∃ B o N, x = Option.some B ∧ μ l = Option.some (B, o, N) := by
  cases r with | some e => exact ⟨_, _, _, rfl, e⟩

/-- Running frames, their list of things to do turned. -/
theorem turn {f : AFrame} {c : Frame} {callers : List AFrame} {cs : List Frame} {lo : Nat} (hlo : lo ≤ h.next) (hm : f.mode = .run) (hF : FRel P μ I h true lo h.next f c) (hS : Stack P μ I h lo callers cs) (hW : WRel μ I w0 h w)
    {todo : List AItem} {todoc : List Item} (hi : ItRels μ todo todoc) (ht : TRel μ I f.tm c.tmps) :
    MRel P μ I w0 { fr := { f with todo }, callers, h } (c.atR ⟨c.tmps, c.defers⟩ todoc) cs w := by
  refine ⟨⟨lo, hlo, ⟨hF.fn, hF.has, hF.kind, hF.round, hF.defers, hF.size, ?_⟩, hS⟩, hW⟩
  simp only
  rw [hm]
  exact .run rfl (.plain hi ht)

theorem late_heavy {tm : Tr AV} {o : Oper} (hl : late o = true) : aheavy P h tm o = none := by
  obtain ⟨dst, op, type, pos, after, guard⟩ := o
  cases op
  case call cl =>
    obtain ⟨callee, args, argTypes⟩ := cl
    cases callee
    case builtin b => cases b <;> first | (simp [late] at hl; done) | (simp only [aheavy])
    all_goals (simp [late] at hl)
  all_goals first | rfl | (simp [late] at hl; done)

/-- The end of a round, or of a body. -/
theorem aleave_sim {f : AFrame} {c : Frame} {callers : List AFrame} {cs tl : List Frame} {lo : Nat} {m' : AMach} {jump : Option Code} (e : aleave P f callers h jump = some m') (hlo : lo ≤ h.next) (hm : f.mode = .run) (hF : FRel P μ I h true lo h.next f c)
    (hS : Stack P μ I h lo callers cs) (hW : WRel μ I w0 h w) (ht : TRel μ I f.tm c.tmps)
    (hret : c.roundOf = none → (jump = none ∨ jump = some .ret) → step P (lone c (cs ++ tl) w) = .next (lone { c with mode := .returning } (cs ++ tl) w))
    (hround : ∀ B v w1 cc cs1, c.roundOf = some B → c.kind = .normal → (Instr.endRound B jump).run P w = .ok v w1 → step P (lone c (cc :: cs1) w) = .next (lone (cc.finish v) cs1 w1)) :
    Sim P I w0 m' c cs tl w := by
  unfold aleave at e
  split at e
  · rename_i hro
    have hcr : c.roundOf = none := by have := hF.round; rw [hro] at this; exact this.none_inv
    have hj : jump = none ∨ jump = some .ret := by
      split at e
      · exact .inl rfl
      · exact .inr rfl
      · cases e
    have e' : m' = { fr := { f with mode := .returning }, callers, h } := by
      rcases hj with rfl | rfl <;> simp at e <;> exact e.symm
    subst e'
    exact ⟨μ, _, cs, w, Steps.one (hret hcr hj), ⟨⟨lo, hlo, ⟨hF.fn, hF.has, hF.kind, hF.round, hF.defers, hF.size, .ret rfl ht⟩, hS⟩, hW⟩⟩
  · rename_i l hro
    have hrr := hF.round
    rw [hro] at hrr
    obtain ⟨B, o, N, hcr, hmu⟩ := hrr.some_inv
    split at e
    case h_2 => cases e
    case h_1 r hg =>
    have hg' := getLoop_spec hg
    obtain ⟨L, hL, hLr⟩ := loop_at hW hg' hmu
    obtain ⟨hd, e⟩ := cond_none e
    have hkind : c.kind = .normal := by rw [hF.kind, hd]; rfl
    have hrun := run_endRound (P := P) jump hL
    have g := loop_update (P := P) hW (L := L) hg' hmu (r' := { r with state := if jump.isNone then .ready else .done, pending := jump }) (L' := { L with state := if jump.isNone then .ready else .done, pending := jump })
      ⟨rfl, rfl, hLr.fn, hLr.nt, hLr.tm, hLr.params, hLr.assign, hLr.body, hLr.defers⟩
    obtain ⟨cc, cs', rfl, k1, _⟩ := areturn_sim (tl := tl) (u := .bool jump.isNone) e hlo (hS.mono g.ext (goes_keep g hlo)) g.rel (.bool _)
    exact ⟨μ, _, cs', _, Steps.one (hround B _ _ cc (cs' ++ tl) hcr hkind hrun), k1 hd⟩

theorem stepG_rangeFunc {c : Frame} {a : Act} {k : List Item} {cs : List Frame} {g : Operand} {ps : Array Tmp} {assign body : Code} {l : Nat} {mark : List Deferred} {w₁ : World}
    (he : (Instr.enterLoop c.fn a.tmps ps assign body c.roundOf).run P w = .ok (l, mark) w₁) :
    (stepG P true { frame := c.atR a (.code (.rangeFunc g ps assign body) :: k), callers := cs, status := .running, dying := none } w).bare =
      (stepG.apply P true (c.atR { a with defers := mark ++ a.defers } (.inRangeFunc l :: k)) cs none (do let d ← Deferred.ofValue (a.eval g) #[.func (.yield l) #[] #[]]; invoke d.target d.args) w₁).bare := by
  have hev := Frame.eval_atR c { a with defers := mark ++ a.defers } (.inRangeFunc l :: k)
  simp only [Frame.atR] at hev
  have hev2 : (({ tmps := a.tmps, defers := mark ++ a.defers } : Act).eval) = a.eval := by funext x; cases x <;> rfl
  have hres : resolve a.eval { callee := .value g, args := #[.const (.func (.yield l) #[] #[])], argTypes := #[] } 0 = Deferred.ofValue (a.eval g) #[.func (.yield l) #[] #[]] := by
    simp [resolve, Act.eval]
  simp only [stepG, stepG.exec, Frame.atR, Sem.runT_eq, he, GStep.bare_after]
  rw [hev, hev2, hres]

theorem stack_goes {lo : Nat} {callers : List AFrame} {cs : List Frame} (g : Goes P μ μ' I w0 h h' w') (hlo : lo ≤ h.next) (hS : Stack P μ I h lo callers cs) : Stack P μ' I h' lo callers cs := hS.mono g.ext (goes_keep g hlo)

theorem exec_sim (K : ProgOk P) {pl : Plans} {f : AFrame} {c : Frame} {callers : List AFrame} {cs tl : List Frame} {lo : Nat} {m' : AMach} (e : exec P pl f callers h = some m') (hlo : lo ≤ h.next) (hm : f.mode = .run) (hF : FRel P μ I h true lo h.next f c)
    (hS : Stack P μ I h lo callers cs) (hW : WRel μ I w0 h w) : Sim P I w0 m' c cs tl w := by
  obtain ⟨hcm, htd⟩ := hF.mode_run hm
  generalize hfm : f.todo = todo at htd
  generalize hct : c.todo = todoc at htd
  generalize hctm : c.tmps = tmps at htd
  have hc := atR_eq hcm hct
  unfold exec at e
  rw [hfm] at e
  simp only at e
  cases htd with
  | drawn hk hd hal =>
    rename_i ops plan restA β restC k kc
    cases restA with
    | nil =>
      -- the region's end: the model does what it has left
      simp at e
      subst e
      have hall : ∀ i ∈ restC, Gone [] i := fun i _ x hx => by cases hx
      rw [← List.append_nil restC] at hd
      obtain ⟨μ', tmps', w', x, kb, W', hsz, hD, hst⟩ := drun restC [] μ w tmps hd hall hW
      have hst' := hst c c.defers kc (cs ++ tl)
      rw [List.append_nil, ← hctm, hc] at hst'
      refine ⟨μ', c.atR ⟨tmps', c.defers⟩ kc, cs, w', hst'.trans (Steps.one (stepR_region_end)), ?_⟩
      have htm : TRel μ' I f.tm tmps' := fun t v ev => hD.tms t v ev (by intro i hi; cases hi)
      refine ⟨⟨lo, hlo, ⟨hF.fn, hF.has, hF.kind, hF.round.mono x, hF.defers.mono x, ?_, ?_⟩, hS.mono x (by intro b hb e; exact kb b hb e)⟩, W'⟩
      · show tmps'.size = f.nt; rw [hsz, ← hctm]; exact hF.size
      · simp only; rw [hm]; exact .run rfl (.plain (hk.mono x.mu) htm)
    | cons ia rest =>
      obtain ⟨i, chk⟩ := ia
      simp only at e
      cases ho : ops[i]? with
      | none => rw [ho] at e; cases e
      | some o =>
        rw [ho] at e
        simp only at e
        have hsize : tmps.size = f.nt := by rw [← hctm]; exact hF.size
        cases hl : late o with
        | true =>
          -- nothing is done by the model yet
          have fin : ∀ {h1 : Heap} {v : AV} {f' : AFrame}, afinish P h1 f v = some f' → ∃ tm', tmSet f.nt f.tm o.dst v = some tm' ∧ f' = { f with tm := tm', todo := .dreg ops rest :: k } := by
            intro h1 v f' he
            unfold afinish at he
            rw [hfm] at he
            simp only [ho] at he
            cases hs : tmSet f.nt f.tm o.dst v with
            | none => rw [hs] at he; cases he
            | some tm' =>
              rw [hs] at he
              simp only at he
              obtain ⟨_, he⟩ := cond_some he
              simp at he
              exact ⟨tm', rfl, he.symm⟩
          have done : ∀ {h1 : Heap} {v : AV} {f' : AFrame}, afinish P h1 f v = some f' → WRel μ I w0 h1 w → h.next ≤ h1.next → KeepBelow lo μ μ h h1 →
              ((awanted ops f.tm o = some true ∧ alight P h f.tm o = some v ∧ h1 = h) ∨ (awanted ops f.tm o = some true ∧ ∃ ob, afresh P h.next f.tm o = some (ob, v) ∧ h1 = h.new ob) ∨ (awanted ops f.tm o = some false ∧ v = .tuple [] ∧ h1 = h)) →
              Sim P I w0 { fr := f', callers, h := h1 } c cs tl w := by
            intro h1 v f' he W1 hn hkb hv
            obtain ⟨tm', hs, rfl⟩ := fin he
            have hD := late_step (P := P) hW hlo hd ho hl (by rw [hsize]; exact hs) hv
            refine ⟨μ, c, cs, w, Steps.refl _ _, ⟨⟨lo, Nat.le_trans hlo hn, ⟨hF.fn, hF.has, hF.kind, hF.round, hF.defers, hF.size, ?_⟩, hS.mono (.refl _ _) hkb⟩, W1⟩⟩
            simp only
            rw [hm]
            refine .run hcm ?_
            rw [hct, hctm]
            exact .drawn hk hD (by simp)
          unfold aoper at e
          split at e
          · rename_i hw
            split at e
            · rename_i v hv
              split at e
              · rename_i f' he
                simp at e
                subst e
                exact done he hW (Nat.le_refl _) (fun _ _ e => ⟨e, rfl⟩) (.inl ⟨hw, hv, rfl⟩)
              · cases e
            · split at e
              · rename_i ob v hv
                split at e
                · rename_i f' he
                  simp at e
                  subst e
                  refine done he (hW.new ob) (Nat.le_succ _) (fun b hb e => ⟨e, ?_⟩) (.inr (.inl ⟨hw, ob, hv, rfl⟩))
                  rw [Heap.get_new, if_neg (by omega)]
                · cases e
              · split at e
                · rename_i n h' hv
                  rw [late_heavy hl] at hv
                  cases hv
                · cases e
          · rename_i hw
            split at e
            · rename_i f' he
              simp at e
              subst e
              exact done he hW (Nat.le_refl _) (fun _ _ e => ⟨e, rfl⟩) (.inr (.inr ⟨hw, rfl, rfl⟩))
            · cases e
          · cases e
        | false =>
          -- the model does what is ahead of it, then this
          obtain ⟨pre, hpre⟩ := hd.pre
          obtain ⟨doneC, hlin⟩ := hd.lin
          have hiC : i ∈ restC := hd.sub (i, chk) (List.mem_cons_self)
          obtain ⟨a, b, rfl⟩ := List.append_of_mem hiC
          have hord := hd.ok.ord pre i chk rest hpre o ho
          have hgone : ∀ j ∈ a, Gone ((i, chk) :: rest) j := by
            intro j hj x hx hxj
            have hnd := hlin.nodup
            rcases List.mem_cons.1 hx with rfl | hx
            · subst hxj
              rw [List.nodup_append] at hnd
              have := hnd.2.1
              rw [List.nodup_append] at this
              exact this.2.2 _ hj _ (List.mem_cons_self) rfl
            · have hanc := (hord.2.2 hl).1 x hx
              rw [hxj] at hanc
              obtain ⟨a1, a2, rfl⟩ := List.append_of_mem hj
              exact hlin.not_anc (a := doneC ++ a1) (b := a2 ++ i :: b) (i := j) (j := i) (by simp) (by simp) hanc
          obtain ⟨μ', tmps', w', x, kb, W', hsz, hD, hst⟩ := drun a (i :: b) μ w tmps hd hgone hW
          have hst' := hst c c.defers kc (cs ++ tl)
          rw [← hctm, hc] at hst'
          refine Sim.head (c1 := c.atR ⟨tmps', c.defers⟩ (.inRegion ops (i :: b) :: kc)) (cs1 := cs) hst' ?_
          have hF' : FRel P μ' I h false lo h.next f (c.atR ⟨tmps', c.defers⟩ (.inRegion ops (i :: b) :: kc)) := by
            refine ⟨hF.fn, hF.has, hF.kind, hF.round.mono x, hF.defers.mono x, ?_, ?_⟩
            · show tmps'.size = f.nt; rw [hsz]; exact hsize
            · rw [hm, hfm]
              refine .run rfl (.drawn (hk.mono x.mu) ⟨hD.ok, hD.pre, hD.lin, hD.sub, fun j hj hg => ?_, hD.inj, hD.tms⟩ fun _ => ⟨i, chk, rest, b, o, rfl, rfl, ho, hl⟩)
              obtain ⟨o', d', p1, p2, p3, p4, p5⟩ := hD.pend j hj hg
              exact ⟨o', d', p1, p2, p3, p4, p5.wait⟩
          -- what it looks at is there
          obtain ⟨doneC', hlin'⟩ := hD.lin
          have hlook : ∀ t ∈ looks ops o, ∀ v, f.tm.get t = some v → VRel μ' I v (tmps'.getD t undef) := by
            intro t ht v hv
            refine hD.tms t v hv fun k' hk' hgk o' ho' hd' => ?_
            obtain ⟨o2, d2, p1, p2, p3, _, _⟩ := hD.pend k' hk' hgk
            rw [ho'] at p1; cases p1
            obtain ⟨p, c', q, ep⟩ : ∃ p c' q, plan = p ++ (k', c') :: q := by
              obtain ⟨y, hy, hyi⟩ := List.mem_map.1 (hD.ok.all k' (hlin'.lt k' (by simp; exact .inr (by simpa using hk'))))
              obtain ⟨y1, y2⟩ := y
              simp at hyi
              subst hyi
              obtain ⟨p, q, ep⟩ := List.append_of_mem hy
              exact ⟨p, y2, q, ep⟩
            obtain ⟨d3, q1, q2, q3⟩ := (hD.ok.ord p k' c' q ep o' ho').2.1 p3
            rw [hd'] at q1; cases q1
            have hki : k' ≠ i := fun z => by subst z; exact hgk (k', chk) (List.mem_cons_self) rfl
            have hanc := q3 i o ho (Ne.symm hki) (by simp [names, ht])
            have hk'' : k' ∈ b := by
              rcases List.mem_cons.1 hk' with z | z
              · exact absurd z hki
              · exact z
            exact hlin'.not_anc rfl hk'' hanc
          refine aoper_sim K e hm hF' hlo (Nat.le_refl _) (hS.mono x kb) W' rfl ho (fun y hy => evalOp_rel fun t ht v hv => ?_) (fun bb hb => awanted_rel (μ := μ') (I := I) hb fun t ht v hv => ?_)
          · subst ht; exact hlook t (by simp [looks]; left; exact tmpsOf_mem hy) v hv
          · exact hlook t (by simp [looks, ht]) v hv
  | plain hit htm =>
    rw [← hctm] at htm
    have ev : ∀ x, VRel μ I (evalOp f.tm x) (Act.eval ⟨c.tmps, c.defers⟩ x) := fun x => evalOp_rel fun t _ v hv => htm t v hv
    -- a step that only turns what there is to do
    have go : ∀ {todo' : List AItem} {todoc' : List Item}, ItRels μ todo' todoc' → step P (lone (c.atR ⟨c.tmps, c.defers⟩ todoc) (cs ++ tl) w) = .next (lone (c.atR ⟨c.tmps, c.defers⟩ todoc') (cs ++ tl) w) →
        Sim P I w0 { fr := { f with todo := todo' }, callers, h } c cs tl w := by
      intro todo' todoc' hi hs
      rw [hc] at hs
      exact ⟨μ, _, cs, w, Steps.one hs, turn hlo hm hF hS hW hi htm⟩
    cases hit with
    | nil =>
      refine aleave_sim e hlo hm hF hS hW htm (fun hr _ => ?_) (fun B v w1 cc cs1 hr hk he => ?_)
      · have := stepR_end (P := P) (b := c) (a := ⟨c.tmps, c.defers⟩) (cs := cs ++ tl) (w := w) hr
        rw [hc] at this
        exact this
      · have := stepR_round_end (P := P) (b := c) (a := ⟨c.tmps, c.defers⟩) (cs := cs1) (w := w) (c := cc) hr hk he
        rw [hc] at this
        exact this
    | cons hit hk =>
      rename_i ai ci k kc
      cases hit with
      | inBlock id => simp at e; subst e; exact go hk stepR_inBlock
      | inLoop body => simp at e; subst e; exact go (.cons (.code _) (.cons (.inLoop _) hk)) stepR_inLoop
      | inScope body => simp at e; subst e; exact go hk stepR_inScope'
      | inRangeFunc hl => cases e
      | beginRound =>
        simp only at e
        split at e
        case h_2 => cases e
        case h_1 l hro =>
        split at e
        case h_2 => cases e
        case h_1 r hg =>
        split at e
        case h_2 => cases e
        case h_1 hst =>
        simp at e
        subst e
        have hrr := hF.round
        rw [hro] at hrr
        obtain ⟨B, o, N, hcr, hmu⟩ := hrr.some_inv
        have hg' := getLoop_spec hg
        obtain ⟨L, hL, hLr⟩ := loop_at hW hg' hmu
        have hrun := run_beginRound (P := P) hL (by rw [hLr.state]; exact hst)
        have g := loop_update (P := P) hW (L := L) hg' hmu (r' := { r with state := .busy }) (L' := { L with state := .busy }) ⟨rfl, hLr.pending, hLr.fn, hLr.nt, hLr.tm, hLr.params, hLr.assign, hLr.body, hLr.defers⟩
        have hs := stepR_beginRound (P := P) (b := c) (a := ⟨c.tmps, c.defers⟩) (k := kc) (cs := cs ++ tl) hcr hrun
        rw [hc] at hs
        refine ⟨μ, _, cs, _, Steps.one hs, ⟨⟨lo, hlo, ⟨hF.fn, hF.has, hF.kind, hF.round, hF.defers, hF.size, ?_⟩, stack_goes g hlo hS⟩, g.rel⟩⟩
        simp only
        rw [hm]
        exact .run rfl (.plain hk htm)
      | endRangeFunc hmu =>
        rename_i l B o N
        simp only at e
        split at e
        case h_2 => cases e
        case h_1 r hg =>
        have hg' := getLoop_spec hg
        obtain ⟨L, hL, hLr⟩ := loop_at hW hg' hmu
        have hnb : r.state ≠ .busy := by intro z; rw [z] at e; cases e
        have e' : m' = { fr := { f with todo := match r.pending with | some c => .code c :: k | none => k }, callers, h := h.set l (.loop { r with state := .exhausted }) } := by
          split at e
          · cases e
          · simp at e; exact e.symm
        subst e'
        have hrun := run_endLoop (P := P) hL (by rw [hLr.state]; exact hnb)
        have g := loop_update (P := P) hW (L := L) hg' hmu (r' := { r with state := .exhausted }) (L' := { L with state := .exhausted }) ⟨rfl, hLr.pending, hLr.fn, hLr.nt, hLr.tm, hLr.params, hLr.assign, hLr.body, hLr.defers⟩
        have hs := stepR_endRangeFunc (P := P) (b := c) (a := ⟨c.tmps, c.defers⟩) (k := kc) (cs := cs ++ tl) hrun
        rw [hc] at hs
        refine ⟨μ, _, cs, _, Steps.one hs, ⟨⟨lo, hlo, ⟨hF.fn, hF.has, hF.kind, hF.round, hF.defers, hF.size, ?_⟩, stack_goes g hlo hS⟩, g.rel⟩⟩
        simp only
        rw [hm, hLr.pending]
        refine .run rfl (.plain ?_ htm)
        cases r.pending with
        | none => exact hk
        | some cd => exact .cons (.code _) hk
      | reg ops i =>
        cases hdr : ops.toList.drop i with
        | nil =>
          rw [hdr] at e
          simp at e
          subst e
          have hlen : ops.size - i = 0 := by
            have := congrArg List.length hdr
            simpa using this
          rw [hlen] at hct hc
          refine ⟨μ, _, cs, w, Steps.one ?_, turn hlo hm hF hS hW hk htm⟩
          have := stepR_region_end (P := P) (b := c) (a := ⟨c.tmps, c.defers⟩) (ops := ops) (k := kc) (cs := cs ++ tl) (w := w)
          have hc' : c.atR ⟨c.tmps, c.defers⟩ (.inRegion ops [] :: kc) = c := hc
          rw [hc'] at this
          exact this
        | cons o rest =>
          rw [hdr] at e
          simp only at e
          obtain ⟨d1, d2, d3⟩ := drop_cons hdr
          have d3' : i < ops.size := by simpa using d3
          have d1' : ops[i]? = some o := by simpa using d1
          have hct' : c.todo = .inRegion ops (i :: List.range' (i + 1) (ops.size - (i + 1))) :: kc := by rw [hct, range'_step d3']
          have hF' : FRel P μ I h false lo h.next f c := by
            refine ⟨hF.fn, hF.has, hF.kind, hF.round, hF.defers, hF.size, ?_⟩
            rw [hm, hfm]
            refine .run hcm (.plain ?_ htm)
            rw [hct]
            exact .cons (.reg ops i) hk
          exact aoper_sim K e hm hF' hlo (Nat.le_refl _) hS hW hct' d1' (fun x _ => ev x) (fun b hb => awanted_rel (μ := μ) (I := I) hb fun t _ v hv => htm t v hv)
      | code cd =>
        cases cd with
        | skip => simp at e; subst e; exact go hk stepR_skip
        | label l => simp at e; subst e; exact go hk stepR_label
        | seq a b => simp at e; subst e; exact go (.cons (.code _) (.cons (.code _) hk)) stepR_seq
        | block id b => simp at e; subst e; exact go (.cons (.code _) (.cons (.inBlock _) hk)) stepR_block
        | loop b => simp at e; subst e; exact go (.cons (.code _) (.cons (.inLoop _) hk)) stepR_loop
        | cond x a b =>
          simp only at e
          have hx := ev x
          split at e
          case h_2 => cases e
          case h_1 t hq =>
          simp at e
          subst e
          rw [hq] at hx
          generalize hxv : Act.eval ⟨c.tmps, c.defers⟩ x = xv at hx
          cases hx
          refine go (.cons (.code _) hk) ?_
          rw [stepR_cond hxv]
          cases t <;> rfl
        | exit id =>
          simp only at e
          have hx := exit_rel (id := id) hk
          cases hq : aexitTo id k with
          | some k' =>
            rw [hq] at e
            simp at e
            subst e
            obtain ⟨kc', h1, h2⟩ := hx.1 k' hq
            exact go h2 (stepR_exit h1)
          | none =>
            rw [hq] at e
            simp only at e
            have hx2 := hx.2 hq
            refine aleave_sim e hlo hm hF hS hW htm (fun hr hj => ?_) (fun B v w1 cc cs1 hr hk' he => ?_)
            · rcases hj with hj | hj <;> cases hj
            · have := stepR_round_exit (P := P) (b := c) (a := ⟨c.tmps, c.defers⟩) (k := kc) (cs := cs1) (w := w) (c := cc) hr hk' hx2 he
              rw [hc] at this
              exact this
        | ret =>
          refine aleave_sim e hlo hm hF hS hW htm (fun hr _ => ?_) (fun B v w1 cc cs1 hr hk' he => ?_)
          · have := stepR_ret (P := P) (b := c) (a := ⟨c.tmps, c.defers⟩) (k := kc) (cs := cs ++ tl) (w := w) hr
            rw [hc] at this
            exact this
          · have := stepR_round_ret (P := P) (b := c) (a := ⟨c.tmps, c.defers⟩) (k := kc) (cs := cs1) (w := w) (c := cc) hr hk' he
            rw [hc] at this
            exact this
        | scope b => simp at e; subst e; exact go (.cons (.code _) (.cons (.inScope _) hk)) stepR_scope'
        | goto l => cases e
        | refuse y => cases e
        | region id ops dr =>
          cases dr with
          | false =>
            simp at e
            subst e
            have hz : ItRels μ (.reg ops 0 ops.toList :: k) (.inRegion ops (List.range ops.size) :: kc) := by
              have := ItRels.cons (ItRel.reg (μ := μ) ops 0) hk
              simpa [List.range_eq_range'] using this
            exact go hz stepR_region
          | true =>
            simp only at e
            split at e
            case h_2 => cases e
            case h_1 l hl =>
            split at e
            case h_2 => cases e
            case h_1 p hp =>
            obtain ⟨hok, e⟩ := cond_some e
            simp at e
            subst e
            have ok := planOk_spec hok
            obtain ⟨hlin, hlen⟩ := lin_schedule ok.pred (w.tape w.drawn (.order c.fn id))
            have hs := stepR_region_draw (P := P) (b := c) (a := ⟨c.tmps, c.defers⟩) (ops := ops) (id := id) (k := kc) (cs := cs ++ tl) (w := w)
            rw [hc, K.mixed] at hs
            refine ⟨μ, _, cs, _, Steps.one hs, ⟨⟨lo, hlo, ⟨hF.fn, hF.has, hF.kind, hF.round, hF.defers, hF.size, ?_⟩, hS⟩, hW.drew _⟩⟩
            simp only
            rw [hm]
            refine .run rfl (.drawn (β := fun _ => 0) (plan := p) hk ⟨ok, ⟨[], rfl⟩, ⟨[], by simpa using hlin⟩, fun x hx => ?_, fun i hi hg => ?_, fun i hi j hj hg => ?_, fun t v hv _ => htm t v hv⟩ (by simp))
            · refine Decidable.byContradiction fun hn => ?_
              have := length_le_of_lt ops.size (x.1 :: Region.schedule true ops (w.tape w.drawn (.order c.fn id))) (List.nodup_cons.2 ⟨hn, hlin.nodup⟩) (fun y hy => by
                rcases List.mem_cons.1 hy with rfl | hy
                · exact ok.lt _ (List.mem_map.2 ⟨x, hx, rfl⟩)
                · exact hlin.lt y hy)
              simp only [List.length_cons] at this
              omega
            · obtain ⟨y, hy, hyi⟩ := List.mem_map.1 (ok.all i (hlin.lt i hi))
              exact absurd hyi (hg y hy)
            · obtain ⟨y, hy, hyi⟩ := List.mem_map.1 (ok.all i (hlin.lt i hi))
              exact absurd hyi (hg y hy)
        | rangeFunc g ps assign body =>
          simp only at e
          split at e
          · rename_i hro
            have hcr : c.roundOf = none := by have := hF.round; rw [hro] at this; exact this.none_inv
            cases ha : acall P (evalOp f.tm g) [.yieldf (h.new (.deferred (some []))).next] with
            | none => rw [ha] at e; cases e
            | some n =>
              rw [ha] at e
              simp only at e
              -- two blocks are laid
              have g1 : Goes P μ (upd μ h.next (w.heap.size, 0, 0)) I w0 h (h.new (.deferred (some []))) (w.pushBlock (.deferred (some []))) := goes_push hW (.deferredSome .nil)
              have hL : LRel (upd μ h.next (w.heap.size, 0, 0)) I { state := .ready, pending := none, fn := f.fn, nt := f.nt, tm := f.tm, params := ps, assign, body, defers := h.next } { state := .ready, pending := none, fn := c.fn, tmps := c.tmps, params := ps, assign, body, defers := w.heap.size } :=
                ⟨rfl, rfl, hF.fn, hF.size, htm.mono g1.ext, rfl, rfl, rfl, ⟨0, 0, upd_self _ _ _⟩⟩
              have hn1 := g1.rel.next_none
              have g2 := goes_push (P := P) (N := 0) g1.rel (o := .loop { state := .ready, pending := none, fn := c.fn, tmps := c.tmps, params := ps, assign, body, defers := w.heap.size }) (.loop (hL.mono (.upd hn1)))
              have gg := g1.trans g2
              have hrun := run_enterLoop_outer (P := P) (w := w) c.fn c.tmps ps assign body
              have hyield : VRels (upd (upd μ h.next (w.heap.size, 0, 0)) (h.new (.deferred (some []))).next ((w.pushBlock (.deferred (some []))).heap.size, 0, 0)) I [.yieldf (h.new (.deferred (some []))).next] (#[.func (.yield (w.heap.size + 1)) #[] #[]] : Array Value).toList := by
                refine .cons ?_ .nil
                have := VRel.yieldf (I := I) (upd_self (upd μ h.next (w.heap.size, 0, 0)) (h.new (.deferred (some []))).next ((w.pushBlock (.deferred (some []))).heap.size, 0, 0))
                rw [pushBlock_size] at this ⊢
                exact this
              have hR := acall_run K ha ((ev g).mono gg.ext) hyield ((w.pushBlock (.deferred (some []))).pushBlock (.loop { state := .ready, pending := none, fn := c.fn, tmps := c.tmps, params := ps, assign, body, defers := w.heap.size }))
              have hm2 : (upd (upd μ h.next (w.heap.size, 0, 0)) (h.new (.deferred (some []))).next ((w.pushBlock (.deferred (some []))).heap.size, 0, 0)) (h.new (.deferred (some []))).next = some (w.heap.size + 1, 0, 0) := by
                rw [upd_self, pushBlock_size]
              have hm1 : (upd (upd μ h.next (w.heap.size, 0, 0)) (h.new (.deferred (some []))).next ((w.pushBlock (.deferred (some []))).heap.size, 0, 0)) h.next = some (w.heap.size, 0, 0) := by
                exact g2.ext.mu _ _ (upd_self _ _ _)
              have hF2 : FRel P (upd (upd μ h.next (w.heap.size, 0, 0)) (h.new (.deferred (some []))).next ((w.pushBlock (.deferred (some []))).heap.size, 0, 0)) I ((h.new (.deferred (some []))).new (.loop { state := .ready, pending := none, fn := f.fn, nt := f.nt, tm := f.tm, params := ps, assign, body, defers := h.next })) false lo h.next
                  { f with todo := .inRangeFunc (h.new (.deferred (some []))).next :: k, defers := { tgt := .collected h.next, args := [] } :: f.defers }
                  (c.atR { tmps := c.tmps, defers := [{ target := .collected w.heap.size, args := #[] }] ++ c.defers } (.inRangeFunc (w.heap.size + 1) :: kc)) := by
                refine ⟨hF.fn, hF.has, hF.kind, hF.round.mono gg.ext, .cons (.collected hm1) (hF.defers.mono gg.ext), hF.size, ?_⟩
                simp only
                rw [hm]
                exact .run rfl (.plain (.cons (.inRangeFunc hm2) (hk.mono gg.ext.mu)) (htm.mono gg.ext))
              obtain ⟨c', cs', w'', k1, k2⟩ := apply_sim (tl := tl) K e (by exact hm) hF2 hlo gg.next (hS.mono gg.ext (goes_keep gg hlo)) gg.rel hR
              refine ⟨_, c', cs', w'', Steps.one (step_lone_go ?_), k2⟩
              have hsr := stepG_rangeFunc (P := P) (c := c) (a := ⟨c.tmps, c.defers⟩) (k := kc) (cs := cs ++ tl) (g := g) (w := w) (by rw [hcr]; exact hrun)
              rw [hc] at hsr
              rw [hsr]
              exact k1
          · rename_i outer hro
            have hrr := hF.round
            rw [hro] at hrr
            obtain ⟨B, o, N, hcr, hmu⟩ := hrr.some_inv
            split at e
            case h_2 => cases e
            case h_1 r hg =>
            have hg' := getLoop_spec hg
            obtain ⟨L, hLo, hLr⟩ := loop_at hW hg' hmu
            cases ha : acall P (evalOp f.tm g) [.yieldf h.next] with
            | none => rw [ha] at e; cases e
            | some n =>
              rw [ha] at e
              simp only at e
              obtain ⟨od, Nd, hmd⟩ := hLr.defers
              have hn := hW.next_none
              have hx : Ext μ (upd μ h.next (w.heap.size, 0, 0)) I I := .upd hn
              have hL : LRel μ I { state := .ready, pending := none, fn := f.fn, nt := f.nt, tm := f.tm, params := ps, assign, body, defers := r.defers } { state := .ready, pending := none, fn := c.fn, tmps := c.tmps, params := ps, assign, body, defers := L.defers } :=
                ⟨rfl, rfl, hF.fn, hF.size, htm, rfl, rfl, rfl, ⟨od, Nd, hmd⟩⟩
              have gg := goes_push (P := P) (N := 0) hW (o := .loop { state := .ready, pending := none, fn := c.fn, tmps := c.tmps, params := ps, assign, body, defers := L.defers }) (.loop (hL.mono hx))
              have hrun := run_enterLoop_inner (P := P) hLo c.fn c.tmps ps assign body
              have hyield : VRels (upd μ h.next (w.heap.size, 0, 0)) I [.yieldf h.next] (#[.func (.yield w.heap.size) #[] #[]] : Array Value).toList :=
                .cons (.yieldf (upd_self _ _ _)) .nil
              have hR := acall_run K ha ((ev g).mono hx) hyield (w.pushBlock (.loop { state := .ready, pending := none, fn := c.fn, tmps := c.tmps, params := ps, assign, body, defers := L.defers }))
              have hF2 : FRel P (upd μ h.next (w.heap.size, 0, 0)) I (h.new (.loop { state := .ready, pending := none, fn := f.fn, nt := f.nt, tm := f.tm, params := ps, assign, body, defers := r.defers })) false lo h.next
                  { f with todo := .inRangeFunc h.next :: k } (c.atR { tmps := c.tmps, defers := [] ++ c.defers } (.inRangeFunc w.heap.size :: kc)) := by
                refine ⟨hF.fn, hF.has, hF.kind, hF.round.mono hx, hF.defers.mono hx, hF.size, ?_⟩
                simp only
                rw [hm]
                exact .run rfl (.plain (.cons (.inRangeFunc (upd_self _ _ _)) (hk.mono hx.mu)) (htm.mono hx))
              obtain ⟨c', cs', w'', k1, k2⟩ := apply_sim (tl := tl) K e (by exact hm) hF2 hlo gg.next (hS.mono gg.ext (goes_keep gg hlo)) gg.rel hR
              refine ⟨_, c', cs', w'', Steps.one (step_lone_go ?_), k2⟩
              have hsr := stepG_rangeFunc (P := P) (c := c) (a := ⟨c.tmps, c.defers⟩) (k := kc) (cs := cs ++ tl) (g := g) (w := w) (by rw [hcr]; exact hrun)
              rw [hc] at hsr
              rw [hsr]
              exact k1

end
end Go.Abs
