/- Texts of the claim: AbsStep, AbsExec, AbsExec2, AbsSound, AbsFast, AbsFast2, AbsCut, SymRel, SymRel2, SymRel3. -/
import Derived.Test.YtildjgdhdcoojaaDoorZ06
import Derived.RangeFuncNested
import Derived.Test.YtildjgdhdcoojaaDoorZ01
import Derived.Test.YtildjgdhdcoojaaDoorZ05
set_option linter.unusedVariables false
set_option linter.unusedSimpArgs false
namespace Go.a9
open Go.RowKit (Below)
set_option linter.unusedSectionVars false
section
variable {P : Program} {μ μ' : Mu} {I : fu} [ig I] {h h' : ah} {w0 w w' : World}
def Ad (P : Program) (I : fu) (w0 : World) (m' : bc) (c : Frame) (cs tl : List Frame) (w : World) : Prop :=
 ∃ μ' c' cs' w', Steps P (lone c (cs ++ tl) w) (lone c' (cs' ++ tl) w') /\ oS P μ' I w0 m' c' cs' w'
theorem Ad.head {m' : bc} {c c1 : Frame} {cs cs1 tl : List Frame} {w w1 : World} (s : Steps P (lone c (cs ++ tl) w) (lone c1 (cs1 ++ tl) w1)) (h : Ad P I w0 m' c1 cs1 tl w1) : Ad P I w0 m' c cs tl w := by
 obtain ⟨μ', c', cs', w', h1, h2⟩ := h
 exact ⟨μ', c', cs', w', s.trans h1, h2⟩
theorem Cd {c : Frame} (hm : c.mode = .run) {todo : List Item} (ht : c.todo = todo) : c.atR ⟨c.tmps, c.defers⟩ todo = c := by
 subst ht
 obtain ⟨fn, tmps, todo, defers, mode, kind, roundOf⟩ := c
 simp only at hm
 subst hm
 rfl
theorem eg.w8 {act : Bool} {lo hi : Nat} {f : ak} {c : Frame} (r : eg P μ I h act lo hi f c) (hm : f.mode = .run) : c.mode = .run /\ eB P μ I h act lo hi f.todo f.tm c.todo c.tmps := by
 have := r.st
 rw [hm] at this
 cases this with | run a b => exact ⟨a, b⟩
theorem fh (g : eS P μ μ' I w0 h h' w') {n : Nat} (hn : n <= h.next) : dz n μ μ' h h' := fun b hb e => g.cJ b (Nat.lt_of_lt_of_le hb hn) e
theorem vW {tm : Tr AV} {o : Oper} {c : Call} {n : j9} (hq : o.op = .defer c) (e : cQ P h tm o = some (n, h')) : ∃ d, n = .defer d := by
 obtain ⟨dst, op, type, pos, after, guard⟩ := o
 simp only at hq
 subst hq
 obtain ⟨callee, args, argTypes⟩ := c
 cases callee <;> simp only [cQ] at e <;> first | (cases e; done) | skip
 split at e
 ·simp at e
  exact ⟨_, e.1.symm⟩
 ·cases e
theorem uT (K : cx P) {f : ak} {c : Frame} {callers : List ak} {cs tl : List Frame} {m' : bc} {lo hi : Nat} {ops : Array Oper} {o : Oper} {i : Nat} {rest : List Nat} {kc : List Item}
  (e : iW P f callers h ops o = some m') (hm : f.mode = .run) (hF : eg P μ I h false lo hi f c) (hlo : lo <= hi) (hhi : hi <= h.next) (hS : Stack P μ I h lo callers cs) (hW : bL μ I w0 h w)
  (hct : c.todo = .inRegion ops (i :: rest) :: kc) (ho : ops[i]? = some o)
  (hev : ∀ x ∈ o.op.operands.toList, aG μ I (evalOp f.tm x) (Act.eval ⟨c.tmps, c.defers⟩ x)) (hgd : ∀ b, aY ops f.tm o = some b -> Region.wanted o (yielded ops c.tmps) = b) :
  Ad P I w0 m' c cs tl w := by
 obtain ⟨hcm, _⟩ := hF.w8 hm
 have hc := Cd hcm hct
 unfold iW at e
 -- a value, and heaps that have gone on
 have value : ∀ {μ' : Mu} {h' : ah} {w' : World} {v : AV} {u : Value} {f' : ak}, eS P μ μ' I w0 h h' w' -> aG μ' I v u -> bF P h' f v = some f' -> step P (lone c (cs ++ tl) w) = .next (lone (c.finish u) (cs ++ tl) w') ->
   Ad P I w0 { fr := f', callers, h := h' } c cs tl w := by
  intro μ' h' w' v u f' g hv he hs
  have hF' := hF.mono g.ext (fh g hhi)
  refine ⟨μ', c.finish u, cs, w', Steps.one hs, ⟨⟨lo, ?_, (kB he hm hF' hv).jd (Nat.le_refl _) (Nat.le_trans hhi g.next), hS.mono g.ext (fh g (Nat.le_trans hlo hhi))⟩, g.rel⟩⟩
  exact Nat.le_trans hlo (Nat.le_trans hhi g.next)
 split at e
 ·rename_i hw
  have hwc := hgd _ hw
  split at e
  ·-- light
   rename_i v hv
   split at e
   ·rename_i f' he
    simp at e
    subst e
    obtain ⟨u, h1, h2⟩ := tf (P := P) hW hv hev
    have hnd : ∀ c', o.op ≠ .defer c' := by
     intro c' hq; unfold bz at hv; rw [hq] at hv; cases hv
    refine value (.refl hW) h2 he ?_
    have := jk (P := P) (b := c) (a := ⟨c.tmps, c.defers⟩) (k := kc) (cs := cs ++ tl) (w := w) (rest := rest) ho hwc (by rw [Oper.semAt_eq _ _ _ hnd]; exact h1)
    rw [hc] at this
    exact this
   ·cases e
  ·rename_i hnl
   split at e
   ·-- a new block
    rename_i ob v hv
    split at e
    ·rename_i f' he
     simp at e
     subst e
     obtain ⟨q, u, N, h1, h2⟩ := ti (P := P) hv hev w
     have hx1 : Ext μ (gH μ h.next (w.heap.size, 0, N)) I I := .gH hW.fg
     obtain ⟨h3, h4⟩ := h2 _ hx1 (bR _ _ _)
     have hnd : ∀ c', o.op ≠ .defer c' := by
      intro c' hq; unfold bH at hv; rw [hq] at hv; cases hv
     refine value (jZ hW h3) h4 he ?_
     have := jk (P := P) (b := c) (a := ⟨c.tmps, c.defers⟩) (k := kc) (cs := cs ++ tl) (w := w) (rest := rest) ho hwc (by rw [Oper.semAt_eq _ _ _ hnd]; exact h1)
     rw [hc] at this
     exact this
    ·cases e
   ·split at e
    ·-- heavy
     rename_i n h' hv
     obtain ⟨μ', w', g, hR⟩ := zq K hW hv hev
     have hsem : Oper.semAt c.roundOf (Act.eval ⟨c.tmps, c.defers⟩) o = execOp (Act.eval ⟨c.tmps, c.defers⟩) o := by
      by_cases hq : ∃ c', o.op = .defer c'
      ·obtain ⟨c', hq⟩ := hq
       -- a deferred call within a round is not taken in
       have hro : f.roundOf = none := by
        obtain ⟨d, rfl⟩ := vW hq hv
        simp only [apply] at e
        split at e
        ·assumption
        ·cases e
       have := hF.round
       rw [hro] at this
       rw [this.om]
       rfl
      ·exact Oper.semAt_eq _ _ _ fun c' hc' => hq ⟨c', hc'⟩
     obtain ⟨c', cs', w'', h1, h2⟩ := pQ (tl := tl) K e hm (hF.mono g.ext (fh g hhi)) hlo (Nat.le_trans hhi g.next) (hS.mono g.ext (fh g (Nat.le_trans hlo hhi))) g.rel hR
     refine ⟨μ', c', cs', w'', Steps.one (step_lone_go ?_), h2⟩
     have := stepGR_op (P := P) (b := c) (a := ⟨c.tmps, c.defers⟩) (k := kc) (cs := cs ++ tl) (w := w) (rest := rest) ho hwc
     rw [hc, hsem] at this
     rw [this]
     exact h1
    ·cases e
 ·rename_i hw
  have hwc := hgd _ hw
  split at e
  ·rename_i f' he
   simp at e
   subst e
   refine value (u := undef) (.refl hW) (.tuple .nil) he ?_
   have := stepR_op_skip (P := P) (b := c) (a := ⟨c.tmps, c.defers⟩) (k := kc) (cs := cs ++ tl) (w := w) (ops := ops) (i := i) (rest := rest) (by rw [ho]; simpa using hwc)
   rw [<- Frame.finish_atR, hc] at this
   exact this
  ·cases e
 ·cases e
theorem BX {id : Nat} {k : List bu} {kc : List Item} (r : fH μ k kc) : (∀ k', cS id k = some k' -> ∃ kc', exitTo id kc = some kc' /\ fH μ k' kc') /\ (cS id k = none -> exitTo id kc = none) := by
 induction r with
 | nil => exact ⟨fun k' e => by simp [cS] at e, fun _ => rfl⟩
 | cons a b ih =>
  cases a
  case inBlock n =>
   simp only [cS, exitTo]
   cases hb : Nat.beq n id with
   | true =>
    have := aq hb
    subst this
    refine ⟨fun k' e => ?_, fun e => by simp at e⟩
    simp at e
    subst e
    exact ⟨_, by simp, b⟩
   | false =>
    have hn : (n == id) = false := by simpa using Cc hb
    rw [hn]
    simpa using ih
  all_goals (simp only [cS, exitTo]; exact ih)
theorem kG (W : bL μ I w0 h w) {tm : Tr AV} {tmps : Array Value} (ht : h9 μ I tm tmps) : ∀ {l : List ResultVar} {vs : List AV}, bq P h tm l = some vs ->
  ∃ us : List Value, (l.mapM fun | .tmp t => pure (tmps.getD t undef) | .cell a t => do loadVar t (<- asAddr (tmps.getD a undef)) : Sem (List Value)).run P w = .ok us w /\ aL μ I vs us
 | [], vs, e => by simp [bq] at e; subst e; exact ⟨[], by simp, .nil⟩
 | .tmp t :: l, vs, e => by
  simp only [bq] at e
  cases h1 : bq P h tm l with
  | none => rw [h1] at e; simp at e
  | some vs' =>
   rw [h1] at e
   simp at e
   subst e
   obtain ⟨us, k1, k2⟩ := kG W ht h1
   refine ⟨tmps.getD t undef :: us, ?_, .cons ?_ k2⟩
   ·simp only [List.mapM_cons, Sem.run_bind, Sem.run_pure, Result.andThen_ok, k1]
   ·have := iT (μ := μ) (I := I) (tm := tm) (tmps := tmps) (x := .tmp t) (ds := []) (fun t' _ v hv => ht t' v hv)
    exact this
 | .cell a t :: l, vs, e => by
  simp only [bq] at e
  split at e
  ·rename_i v vs' h0 h1
   simp at e
   subst e
   obtain ⟨us, k1, k2⟩ := kG W ht h1
   have hr : aG μ I (bJ tm a) (tmps.getD a undef) := iT (μ := μ) (I := I) (tm := tm) (tmps := tmps) (x := .tmp a) (ds := []) (fun t' _ v hv => ht t' v hv)
   obtain ⟨u, k3, k4⟩ := uU (P := P) W h0 hr
   refine ⟨u :: us, ?_, .cons k4 k2⟩
   have : (asAddr (tmps.getD a undef) >>= fun x => loadVar t x).run P w = .ok u w := by
    unfold Instr.loadAt at k3
    generalize tmps.getD a undef = x at k3 hr ⊢
    unfold fE at h0
    split at h0
    ·rename_i cs hU
     obtain ⟨B, o, rfl, _⟩ := uu W hU hr
     simpa [asAddr, Instr.sureAddr] using k3
    ·cases h0
   simp only [List.mapM_cons, Sem.run_bind, Sem.run_pure] at this ⊢
   rw [this]
   simp only [Result.andThen_ok, k1]
  ·cases e
def packed : List AV -> AV
 | [v] => v
 | vs => .tuple vs
theorem qk (W : bL μ I w0 h w) {tm : Tr AV} {tmps : Array Value} (ht : h9 μ I tm tmps) {fn : Func} {vs : List AV} (e : bq P h tm fn.results.toList = some vs) :
  ∃ u, (results fn tmps).run P w = .ok u w /\ aG μ I (packed vs) u := by
 obtain ⟨us, k1, k2⟩ := kG W ht e
 unfold results
 rw [Array.mapM_eq_mapM_toList]
 refine ⟨if h : us.toArray.size = 1 then us.toArray[0] else .tuple us.toArray, ?_, ?_⟩
 ·simp only [Sem.run_bind, Sem.run_map]
  generalize hX : Sem.run P (List.mapM _ fn.results.toList) w = X
  have hX' : X = .ok us w := hX.symm.trans k1
  rw [hX']
  simp only [Result.andThen_ok, Sem.run_pure]
 ·cases k2 with
  | nil => simp only [packed]; exact .tuple .nil
  | cons a b =>
   cases b with
   | nil => simp only [packed]; exact a
   | cons b c =>
    simp only [packed]
    rw [dif_neg (by simp)]
    exact .tuple (.cons a (.cons b c))
end
end Go.a9
namespace Go.a9
open Go.RowKit (Below)
set_option linter.unusedSectionVars false
section
variable {P : Program} {μ μ' : Mu} {I : fu} [ig I] {h h' : ah} {w0 w w' : World}
theorem iY.drop {a : List jK} {b : List PanicEntry} (r : iY μ I a b) : b.dropWhile (!·.goexit) = [] := by
 induction r with
 | nil => rfl
 | cons _ _ ih => simp only [List.dropWhile, Bool.not_false]; exact ih
theorem qH {f : ak} {callers : List ak} {cs tl : List Frame} {v : AV} {m' : bc} {lo : Nat} {u : Value} (e : dp P f callers v h = some m') (hlo : lo <= h.next) (hS : Stack P μ I h lo callers cs) (hW : bL μ I w0 h w) (hv : aG μ I v u) :
  ∃ cc cs', cs = cc :: cs' /\ (f.deferred = false -> oS P μ I w0 m' (cc.finish u) cs' w) /\
   (f.deferred = true -> oS P μ I w0 m' (match cc.mode with
    | .panicking ({ recovered := true, .. } :: older) => (match older.dropWhile (!·.goexit) with
     | [] => { cc with mode := .returning }
     | rest => { cc with mode := .panicking rest })
    | _ => cc) cs' w) := by
 unfold dp at e
 cases callers with
 | nil => cases e
 | cons c1 rest =>
  cases hS with
  | cons hF1 hlo1 hS1 =>
  rename_i lo1 cc cs'
  refine ⟨cc, cs', rfl, fun hd => ?_, fun hd => ?_⟩
  ·rw [hd] at e
   simp only [cond_false] at e
   split at e
   case h_2 => cases e
   case h_1 hm =>
   split at e
   case h_2 => cases e
   case h_1 c1' he =>
   simp at e
   subst e
   exact ⟨⟨lo1, Nat.le_trans hlo1 hlo, (kB he hm hF1 hv).jd (Nat.le_refl _) hlo, hS1⟩, hW⟩
  ·rw [hd] at e
   simp only [cond_true] at e
   have hst := hF1.st
   -- the caller is not amid an operation: its mode is that of an ending frame, or it waits
   split at e
   ·rename_i v0 ch hm
    simp at e
    subst e
    rw [hm] at hst
    cases hst with
    | tI z1 z2 z3 =>
     cases z2 with
     | cons q1 q2 =>
      rename_i oc
      rw [z1]
      have : oc.dropWhile (!·.goexit) = [] := q2.drop
      simp only [this]
      exact ⟨⟨lo1, Nat.le_trans hlo1 hlo, ⟨hF1.fn, hF1.has, hF1.kind, hF1.round, hF1.defers, hF1.size, .ret rfl z3⟩, hS1⟩, hW⟩
   ·cases e
   ·rename_i hno hnr
    simp at e
    subst e
    have hcc : (match cc.mode with
      | .panicking ({ recovered := true, .. } :: older) => (match older.dropWhile (!·.goexit) with
       | [] => { cc with mode := .returning }
       | rest => { cc with mode := .panicking rest })
      | _ => cc) = cc := by
     cases hm : c1.mode with
     | run => exact absurd hm hnr
     | returning => rw [hm] at hst; cases hst with | ret z1 z2 => rw [z1]
     | panicking ch =>
      rw [hm] at hst
      cases hst with
      | tI z1 z2 z3 =>
       rw [z1]
       cases z2 with
       | nil => rfl
       | cons q1 q2 =>
        rename_i v u rr a b
        cases rr with
        | false => rfl
        | true => exact absurd hm (hno _ _)
    rw [hcc]
    refine ⟨⟨lo1, Nat.le_trans hlo1 hlo, ⟨hF1.fn, hF1.has, hF1.kind, hF1.round, hF1.defers, hF1.size, ?_⟩, hS1⟩, hW⟩
    cases hm : c1.mode with
    | run => exact absurd hm hnr
    | returning => rw [hm] at hst; cases hst with | ret z1 z2 => exact .ret z1 z2
    | panicking ch => rw [hm] at hst; cases hst with | tI z1 z2 z3 => exact .tI z1 z2 z3
end
end Go.a9
namespace Go.a9
open Go.RowKit (Below)
set_option linter.unusedSectionVars false
theorem stepR_scope' {P : Program} {b : Frame} {a : Act} {k : List Item} {cs : List Frame} {w : World} {c : Code} :
  step P (lone (b.atR a (.code (.scope c) :: k)) cs w) = .next (lone (b.atR a (.code c :: .inScope c :: k)) cs w) :=
 step_lone_go (by simp [stepG, stepG.exec, Frame.atR])
theorem stepR_inScope' {P : Program} {b : Frame} {a : Act} {k : List Item} {cs : List Frame} {w : World} {c : Code} : step P (lone (b.atR a (.inScope c :: k)) cs w) = .next (lone (b.atR a k) cs w) :=
 step_lone_go (by simp [stepG, stepG.exec, Frame.atR])
section
variable {P : Program} {μ μ' : Mu} {I : fu} [ig I] {h h' : ah} {w0 w w' : World}
theorem ir {l : Nat} {r : fS} (e : getLoop h l = some r) : h.get l = some (.loop r) := by
 unfold getLoop at e
 split at e
 ·rename_i q; cases e; exact q
 ·cases e
theorem lC (W : bL μ I w0 h w) {l B o N : Nat} {r r' : fS} {L L' : Loop} (hg : h.get l = some (.loop r)) (hm : μ l = some (B, o, N)) (hr : wa μ I r' L') :
  eS P μ μ I w0 h (h.set l (.loop r')) (w.putObj B (.loop L')) := by
 refine ⟨.refl _ _, W.update hg hm (.loop hr), Nat.le_refl _, fun b hb e => ⟨e, ?_⟩⟩
 rw [ah.aP, if_neg (fun q => by subst q; rw [hm] at e; cases e)]
theorem rA (W : bL μ I w0 h w) {l B o N : Nat} {r : fS} (hg : h.get l = some (.loop r)) (hm : μ l = some (B, o, N)) : ∃ L, w.heap[B]? = some (.loop L) /\ wa μ I r L := by
 obtain ⟨obj, ho, hor⟩ := W.bj _ _ _ _ _ hg hm
 cases hor with
 | loop hl => exact ⟨_, ho, hl⟩
theorem eQ.rW {l : Nat} {x : Option Nat} (r : eQ μ (Option.some l) x) : ∃ B o N, x = Option.some B /\ μ l = Option.some (B, o, N) := by
 cases r with | some e => exact ⟨_, _, _, rfl, e⟩
theorem DV {f : ak} {c : Frame} {callers : List ak} {cs : List Frame} {lo : Nat} (hlo : lo <= h.next) (hm : f.mode = .run) (hF : eg P μ I h true lo h.next f c) (hS : Stack P μ I h lo callers cs) (hW : bL μ I w0 h w)
  {todo : List bu} {todoc : List Item} (hi : fH μ todo todoc) (ht : h9 μ I f.tm c.tmps) :
  oS P μ I w0 { fr := { f with todo }, callers, h } (c.atR ⟨c.tmps, c.defers⟩ todoc) cs w := by
 refine ⟨⟨lo, hlo, ⟨hF.fn, hF.has, hF.kind, hF.round, hF.defers, hF.size, ?_⟩, hS⟩, hW⟩
 simp only
 rw [hm]
 exact .run rfl (.plain hi ht)
theorem yL {tm : Tr AV} {o : Oper} (hl : late o = true) : cQ P h tm o = none := by
 obtain ⟨dst, op, type, pos, after, guard⟩ := o
 cases op
 case call cl =>
  obtain ⟨callee, args, argTypes⟩ := cl
  cases callee
  case builtin b => cases b <;> first | (simp [late] at hl; done) | (simp only [cQ])
  all_goals (simp [late] at hl)
 all_goals first | rfl | (simp [late] at hl; done)
theorem nP {f : ak} {c : Frame} {callers : List ak} {cs tl : List Frame} {lo : Nat} {m' : bc} {jump : Option Code} (e : fF P f callers h jump = some m') (hlo : lo <= h.next) (hm : f.mode = .run) (hF : eg P μ I h true lo h.next f c)
  (hS : Stack P μ I h lo callers cs) (hW : bL μ I w0 h w) (ht : h9 μ I f.tm c.tmps)
  (hret : c.roundOf = none -> (jump = none \/ jump = some .ret) -> step P (lone c (cs ++ tl) w) = .next (lone { c with mode := .returning } (cs ++ tl) w))
  (hround : ∀ B v w1 cc cs1, c.roundOf = some B -> c.kind = .normal -> (Instr.endRound B jump).run P w = .ok v w1 -> step P (lone c (cc :: cs1) w) = .next (lone (cc.finish v) cs1 w1)) :
  Ad P I w0 m' c cs tl w := by
 unfold fF at e
 split at e
 ·rename_i hro
  have hcr : c.roundOf = none := by have := hF.round; rw [hro] at this; exact this.om
  have hj : jump = none \/ jump = some .ret := by
   split at e
   ·exact .inl rfl
   ·exact .inr rfl
   ·cases e
  have e' : m' = { fr := { f with mode := .returning }, callers, h } := by
   rcases hj with rfl | rfl <;> simp at e <;> exact e.symm
  subst e'
  exact ⟨μ, _, cs, w, Steps.one (hret hcr hj), ⟨⟨lo, hlo, ⟨hF.fn, hF.has, hF.kind, hF.round, hF.defers, hF.size, .ret rfl ht⟩, hS⟩, hW⟩⟩
 ·rename_i l hro
  have hrr := hF.round
  rw [hro] at hrr
  obtain ⟨B, o, N, hcr, hmu⟩ := hrr.rW
  split at e
  case h_2 => cases e
  case h_1 r hg =>
  have hg' := ir hg
  obtain ⟨L, hL, hLr⟩ := rA hW hg' hmu
  obtain ⟨hd, e⟩ := iD e
  have hkind : c.kind = .normal := by rw [hF.kind, hd]; rfl
  have hrun := run_endRound (P := P) jump hL
  have g := lC (P := P) hW (L := L) hg' hmu (r' := { r with state := if jump.isNone then .ready else .done, pending := jump }) (L' := { L with state := if jump.isNone then .ready else .done, pending := jump })
   ⟨rfl, rfl, hLr.fn, hLr.nt, hLr.tm, hLr.params, hLr.assign, hLr.body, hLr.defers⟩
  obtain ⟨cc, cs', rfl, k1, _⟩ := qH (tl := tl) (u := .bool jump.isNone) e hlo (hS.mono g.ext (fh g hlo)) g.rel (.bool _)
  exact ⟨μ, _, cs', _, Steps.one (hround B _ _ cc (cs' ++ tl) hcr hkind hrun), k1 hd⟩
theorem kJ {c : Frame} {a : Act} {k : List Item} {cs : List Frame} {g : Operand} {ps : Array Tmp} {assign body : Code} {l : Nat} {mark : List Deferred} {w₁ : World}
  (he : (Instr.enterLoop c.fn a.tmps ps assign body c.roundOf).run P w = .ok (l, mark) w₁) :
  (stepG P true { frame := c.atR a (.code (.rangeFunc g ps assign body) :: k), callers := cs, status := .running, dying := none } w).bare =
   (stepG.apply P true (c.atR { a with defers := mark ++ a.defers } (.inRangeFunc l :: k)) cs none (do let d <- Deferred.ofValue (a.eval g) #[.func (.yield l) #[] #[]]; invoke d.target d.args) w₁).bare := by
 have hev := Frame.eval_atR c { a with defers := mark ++ a.defers } (.inRangeFunc l :: k)
 simp only [Frame.atR] at hev
 have hev2 : (({ tmps := a.tmps, defers := mark ++ a.defers } : Act).eval) = a.eval := by funext x; cases x <;> rfl
 have hres : resolve a.eval { callee := .value g, args := #[.const (.func (.yield l) #[] #[])], argTypes := #[] } 0 = Deferred.ofValue (a.eval g) #[.func (.yield l) #[] #[]] := by
  simp [resolve, Act.eval]
 simp only [stepG, stepG.exec, Frame.atR, Sem.runT_eq, he, GStep.bare_after]
 rw [hev, hev2, hres]
theorem nf {lo : Nat} {callers : List ak} {cs : List Frame} (g : eS P μ μ' I w0 h h' w') (hlo : lo <= h.next) (hS : Stack P μ I h lo callers cs) : Stack P μ' I h' lo callers cs := hS.mono g.ext (fh g hlo)
theorem BY (K : cx P) {pl : fR} {f : ak} {c : Frame} {callers : List ak} {cs tl : List Frame} {lo : Nat} {m' : bc} (e : exec P pl f callers h = some m') (hlo : lo <= h.next) (hm : f.mode = .run) (hF : eg P μ I h true lo h.next f c)
  (hS : Stack P μ I h lo callers cs) (hW : bL μ I w0 h w) : Ad P I w0 m' c cs tl w := by
 obtain ⟨hcm, htd⟩ := hF.w8 hm
 generalize hfm : f.todo = todo at htd
 generalize hct : c.todo = todoc at htd
 generalize hctm : c.tmps = tmps at htd
 have hc := Cd hcm hct
 unfold exec at e
 rw [hfm] at e
 simp only at e
 cases htd with
 | drawn hk hd hal =>
  rename_i ops plan restA β restC k kc
  cases restA with
  | nil =>
   -- the region's end: the model does what it has left
   simp at e
   subst e
   have hall : ∀ i ∈ restC, kI [] i := fun i _ x hx => by cases hx
   rw [<- List.append_nil restC] at hd
   obtain ⟨μ', tmps', w', x, kb, W', hsz, hD, hst⟩ := D9 restC [] μ w tmps hd hall hW
   have hst' := hst c c.defers kc (cs ++ tl)
   rw [List.append_nil, <- hctm, hc] at hst'
   refine ⟨μ', c.atR ⟨tmps', c.defers⟩ kc, cs, w', hst'.trans (Steps.one (stepR_region_end)), ?_⟩
   have htm : h9 μ' I f.tm tmps' := fun t v ev => hD.DP t v ev (by intro i hi; cases hi)
   refine ⟨⟨lo, hlo, ⟨hF.fn, hF.has, hF.kind, hF.round.mono x, hF.defers.mono x, ?_, ?_⟩, hS.mono x (by intro b hb e; exact kb b hb e)⟩, W'⟩
   ·show tmps'.size = f.nt; rw [hsz, <- hctm]; exact hF.size
   ·simp only; rw [hm]; exact .run rfl (.plain (hk.mono x.mu) htm)
  | cons ia rest =>
   obtain ⟨i, chk⟩ := ia
   simp only at e
   cases ho : ops[i]? with
   | none => rw [ho] at e; cases e
   | some o =>
    rw [ho] at e
    simp only at e
    have hsize : tmps.size = f.nt := by rw [<- hctm]; exact hF.size
    cases hl : late o with
    | true =>
     -- nothing is done by the model yet
     have fin : ∀ {h1 : ah} {v : AV} {f' : ak}, bF P h1 f v = some f' -> ∃ tm', jg f.nt f.tm o.dst v = some tm' /\ f' = { f with tm := tm', todo := .cU ops rest :: k } := by
      intro h1 v f' he
      unfold bF at he
      rw [hfm] at he
      simp only [ho] at he
      cases hs : jg f.nt f.tm o.dst v with
      | none => rw [hs] at he; cases he
      | some tm' =>
       rw [hs] at he
       simp only at he
       obtain ⟨_, he⟩ := aJ he
       simp at he
       exact ⟨tm', rfl, he.symm⟩
     have done : ∀ {h1 : ah} {v : AV} {f' : ak}, bF P h1 f v = some f' -> bL μ I w0 h1 w -> h.next <= h1.next -> dz lo μ μ h h1 ->
       ((aY ops f.tm o = some true /\ bz P h f.tm o = some v /\ h1 = h) \/ (aY ops f.tm o = some true /\ ∃ ob, bH P h.next f.tm o = some (ob, v) /\ h1 = h.new ob) \/ (aY ops f.tm o = some false /\ v = .tuple [] /\ h1 = h)) ->
       Ad P I w0 { fr := f', callers, h := h1 } c cs tl w := by
      intro h1 v f' he W1 hn hkb hv
      obtain ⟨tm', hs, rfl⟩ := fin he
      have hD := AG (P := P) hW hlo hd ho hl (by rw [hsize]; exact hs) hv
      refine ⟨μ, c, cs, w, Steps.refl _ _, ⟨⟨lo, Nat.le_trans hlo hn, ⟨hF.fn, hF.has, hF.kind, hF.round, hF.defers, hF.size, ?_⟩, hS.mono (.refl _ _) hkb⟩, W1⟩⟩
      simp only
      rw [hm]
      refine .run hcm ?_
      rw [hct, hctm]
      exact .drawn hk hD (by simp)
     unfold iW at e
     split at e
     ·rename_i hw
      split at e
      ·rename_i v hv
       split at e
       ·rename_i f' he
        simp at e
        subst e
        exact done he hW (Nat.le_refl _) (fun _ _ e => ⟨e, rfl⟩) (.inl ⟨hw, hv, rfl⟩)
       ·cases e
      ·split at e
       ·rename_i ob v hv
        split at e
        ·rename_i f' he
         simp at e
         subst e
         refine done he (hW.new ob) (Nat.le_succ _) (fun b hb e => ⟨e, ?_⟩) (.inr (.inl ⟨hw, ob, hv, rfl⟩))
         rw [ah.aQ, if_neg (by omega)]
        ·cases e
       ·split at e
        ·rename_i n h' hv
         rw [yL hl] at hv
         cases hv
        ·cases e
     ·rename_i hw
      split at e
      ·rename_i f' he
       simp at e
       subst e
       exact done he hW (Nat.le_refl _) (fun _ _ e => ⟨e, rfl⟩) (.inr (.inr ⟨hw, rfl, rfl⟩))
      ·cases e
     ·cases e
    | false =>
     -- the model does what is ahead of it, then this
     obtain ⟨pre, hpre⟩ := hd.pre
     obtain ⟨doneC, hlin⟩ := hd.DQ
     have hiC : i ∈ restC := hd.sub (i, chk) (List.mem_cons_self)
     obtain ⟨a, b, rfl⟩ := List.append_of_mem hiC
     have hord := hd.ok.ord pre i chk rest hpre o ho
     have hgone : ∀ j ∈ a, kI ((i, chk) :: rest) j := by
      intro j hj x hx hxj
      have hnd := hlin.nodup
      rcases List.mem_cons.1 hx with rfl | hx
      ·subst hxj
       rw [List.nodup_append] at hnd
       have := hnd.2.1
       rw [List.nodup_append] at this
       exact this.2.2 _ hj _ (List.mem_cons_self) rfl
      ·have hanc := (hord.2.2 hl).1 x hx
       rw [hxj] at hanc
       obtain ⟨a1, a2, rfl⟩ := List.append_of_mem hj
       exact hlin.mz (a := doneC ++ a1) (b := a2 ++ i :: b) (i := j) (j := i) (by simp) (by simp) hanc
     obtain ⟨μ', tmps', w', x, kb, W', hsz, hD, hst⟩ := D9 a (i :: b) μ w tmps hd hgone hW
     have hst' := hst c c.defers kc (cs ++ tl)
     rw [<- hctm, hc] at hst'
     refine Ad.head (c1 := c.atR ⟨tmps', c.defers⟩ (.inRegion ops (i :: b) :: kc)) (cs1 := cs) hst' ?_
     have hF' : eg P μ' I h false lo h.next f (c.atR ⟨tmps', c.defers⟩ (.inRegion ops (i :: b) :: kc)) := by
      refine ⟨hF.fn, hF.has, hF.kind, hF.round.mono x, hF.defers.mono x, ?_, ?_⟩
      ·show tmps'.size = f.nt; rw [hsz]; exact hsize
      ·rw [hm, hfm]
       refine .run rfl (.drawn (hk.mono x.mu) ⟨hD.ok, hD.pre, hD.DQ, hD.sub, fun j hj hg => ?_, hD.inj, hD.DP⟩ fun _ => ⟨i, chk, rest, b, o, rfl, rfl, ho, hl⟩)
       obtain ⟨o', d', p1, p2, p3, p4, p5⟩ := hD.Bw j hj hg
       exact ⟨o', d', p1, p2, p3, p4, p5.wait⟩
     -- what it looks at is there
     obtain ⟨doneC', hlin'⟩ := hD.DQ
     have hlook : ∀ t ∈ looks ops o, ∀ v, f.tm.get t = some v -> aG μ' I v (tmps'.getD t undef) := by
      intro t ht v hv
      refine hD.DP t v hv fun k' hk' hgk o' ho' hd' => ?_
      obtain ⟨o2, d2, p1, p2, p3, _, _⟩ := hD.Bw k' hk' hgk
      rw [ho'] at p1; cases p1
      obtain ⟨p, c', q, ep⟩ : ∃ p c' q, plan = p ++ (k', c') :: q := by
       obtain ⟨y, hy, hyi⟩ := List.mem_map.1 (hD.ok.all k' (hlin'.lt k' (by simp; exact .inr (by simpa using hk'))))
       obtain ⟨y1, y2⟩ := y
       simp at hyi
       subst hyi
       obtain ⟨p, q, ep⟩ := List.append_of_mem hy
       exact ⟨p, y2, q, ep⟩
      obtain ⟨d3, q1, q2, q3⟩ := (hD.ok.ord p k' c' q ep o' ho').2.1 p3
      rw [hd'] at q1; cases q1
      have hki : k' ≠ i := fun z => by subst z; exact hgk (k', chk) (List.mem_cons_self) rfl
      have hanc := q3 i o ho (Ne.symm hki) (by simp [names, ht])
      have hk'' : k' ∈ b := by
       rcases List.mem_cons.1 hk' with z | z
       ·exact absurd z hki
       ·exact z
      exact hlin'.mz rfl hk'' hanc
     refine uT K e hm hF' hlo (Nat.le_refl _) (hS.mono x kb) W' rfl ho (fun y hy => iT fun t ht v hv => ?_) (fun bb hb => l6 (μ := μ') (I := I) hb fun t ht v hv => ?_)
     ·subst ht; exact hlook t (by simp [looks]; left; exact nc hy) v hv
     ·exact hlook t (by simp [looks, ht]) v hv
 | plain hit htm =>
  rw [<- hctm] at htm
  have ev : ∀ x, aG μ I (evalOp f.tm x) (Act.eval ⟨c.tmps, c.defers⟩ x) := fun x => iT fun t _ v hv => htm t v hv
  -- a step that only turns what there is to do
  have go : ∀ {todo' : List bu} {todoc' : List Item}, fH μ todo' todoc' -> step P (lone (c.atR ⟨c.tmps, c.defers⟩ todoc) (cs ++ tl) w) = .next (lone (c.atR ⟨c.tmps, c.defers⟩ todoc') (cs ++ tl) w) ->
    Ad P I w0 { fr := { f with todo := todo' }, callers, h } c cs tl w := by
   intro todo' todoc' hi hs
   rw [hc] at hs
   exact ⟨μ, _, cs, w, Steps.one hs, DV hlo hm hF hS hW hi htm⟩
  cases hit with
  | nil =>
   refine nP e hlo hm hF hS hW htm (fun hr _ => ?_) (fun B v w1 cc cs1 hr hk he => ?_)
   ·have := stepR_end (P := P) (b := c) (a := ⟨c.tmps, c.defers⟩) (cs := cs ++ tl) (w := w) hr
    rw [hc] at this
    exact this
   ·have := stepR_round_end (P := P) (b := c) (a := ⟨c.tmps, c.defers⟩) (cs := cs1) (w := w) (c := cc) hr hk he
    rw [hc] at this
    exact this
  | cons hit hk =>
   rename_i ai ci k kc
   cases hit with
   | inBlock id => simp at e; subst e; exact go hk stepR_inBlock
   | inLoop body => simp at e; subst e; exact go (.cons (.code _) (.cons (.inLoop _) hk)) stepR_inLoop
   | inScope body => simp at e; subst e; exact go hk stepR_inScope'
   | inRangeFunc hl => cases e
   | beginRound =>
    simp only at e
    split at e
    case h_2 => cases e
    case h_1 l hro =>
    split at e
    case h_2 => cases e
    case h_1 r hg =>
    split at e
    case h_2 => cases e
    case h_1 hst =>
    simp at e
    subst e
    have hrr := hF.round
    rw [hro] at hrr
    obtain ⟨B, o, N, hcr, hmu⟩ := hrr.rW
    have hg' := ir hg
    obtain ⟨L, hL, hLr⟩ := rA hW hg' hmu
    have hrun := run_beginRound (P := P) hL (by rw [hLr.state]; exact hst)
    have g := lC (P := P) hW (L := L) hg' hmu (r' := { r with state := .busy }) (L' := { L with state := .busy }) ⟨rfl, hLr.pending, hLr.fn, hLr.nt, hLr.tm, hLr.params, hLr.assign, hLr.body, hLr.defers⟩
    have hs := stepR_beginRound (P := P) (b := c) (a := ⟨c.tmps, c.defers⟩) (k := kc) (cs := cs ++ tl) hcr hrun
    rw [hc] at hs
    refine ⟨μ, _, cs, _, Steps.one hs, ⟨⟨lo, hlo, ⟨hF.fn, hF.has, hF.kind, hF.round, hF.defers, hF.size, ?_⟩, nf g hlo hS⟩, g.rel⟩⟩
    simp only
    rw [hm]
    exact .run rfl (.plain hk htm)
   | endRangeFunc hmu =>
    rename_i l B o N
    simp only at e
    split at e
    case h_2 => cases e
    case h_1 r hg =>
    have hg' := ir hg
    obtain ⟨L, hL, hLr⟩ := rA hW hg' hmu
    have hnb : r.state ≠ .busy := by intro z; rw [z] at e; cases e
    have e' : m' = { fr := { f with todo := match r.pending with | some c => .code c :: k | none => k }, callers, h := h.set l (.loop { r with state := .exhausted }) } := by
     split at e
     ·cases e
     ·simp at e; exact e.symm
    subst e'
    have hrun := run_endLoop (P := P) hL (by rw [hLr.state]; exact hnb)
    have g := lC (P := P) hW (L := L) hg' hmu (r' := { r with state := .exhausted }) (L' := { L with state := .exhausted }) ⟨rfl, hLr.pending, hLr.fn, hLr.nt, hLr.tm, hLr.params, hLr.assign, hLr.body, hLr.defers⟩
    have hs := stepR_endRangeFunc (P := P) (b := c) (a := ⟨c.tmps, c.defers⟩) (k := kc) (cs := cs ++ tl) hrun
    rw [hc] at hs
    refine ⟨μ, _, cs, _, Steps.one hs, ⟨⟨lo, hlo, ⟨hF.fn, hF.has, hF.kind, hF.round, hF.defers, hF.size, ?_⟩, nf g hlo hS⟩, g.rel⟩⟩
    simp only
    rw [hm, hLr.pending]
    refine .run rfl (.plain ?_ htm)
    cases r.pending with
    | none => exact hk
    | some cd => exact .cons (.code _) hk
   | kP ops i =>
    cases ya : ops.toList.drop i with
    | nil =>
     rw [ya] at e
     simp at e
     subst e
     have hlen : ops.size - i = 0 := by
      have := congrArg List.length ya
      simpa using this
     rw [hlen] at hct hc
     refine ⟨μ, _, cs, w, Steps.one ?_, DV hlo hm hF hS hW hk htm⟩
     have := stepR_region_end (P := P) (b := c) (a := ⟨c.tmps, c.defers⟩) (ops := ops) (k := kc) (cs := cs ++ tl) (w := w)
     have hc' : c.atR ⟨c.tmps, c.defers⟩ (.inRegion ops [] :: kc) = c := hc
     rw [hc'] at this
     exact this
    | cons o rest =>
     rw [ya] at e
     simp only at e
     obtain ⟨d1, d2, d3⟩ := drop_cons ya
     have d3' : i < ops.size := by simpa using d3
     have d1' : ops[i]? = some o := by simpa using d1
     have hct' : c.todo = .inRegion ops (i :: List.range' (i + 1) (ops.size - (i + 1))) :: kc := by rw [hct, range'_step d3']
     have hF' : eg P μ I h false lo h.next f c := by
      refine ⟨hF.fn, hF.has, hF.kind, hF.round, hF.defers, hF.size, ?_⟩
      rw [hm, hfm]
      refine .run hcm (.plain ?_ htm)
      rw [hct]
      exact .cons (.kP ops i) hk
     exact uT K e hm hF' hlo (Nat.le_refl _) hS hW hct' d1' (fun x _ => ev x) (fun b hb => l6 (μ := μ) (I := I) hb fun t _ v hv => htm t v hv)
   | code cd =>
    cases cd with
    | skip => simp at e; subst e; exact go hk stepR_skip
    | label l => simp at e; subst e; exact go hk stepR_label
    | seq a b => simp at e; subst e; exact go (.cons (.code _) (.cons (.code _) hk)) stepR_seq
    | block id b => simp at e; subst e; exact go (.cons (.code _) (.cons (.inBlock _) hk)) stepR_block
    | loop b => simp at e; subst e; exact go (.cons (.code _) (.cons (.inLoop _) hk)) stepR_loop
    | cond x a b =>
     simp only at e
     have hx := ev x
     split at e
     case h_2 => cases e
     case h_1 t hq =>
     simp at e
     subst e
     rw [hq] at hx
     generalize hxv : Act.eval ⟨c.tmps, c.defers⟩ x = xv at hx
     cases hx
     refine go (.cons (.code _) hk) ?_
     rw [stepR_cond hxv]
     cases t <;> rfl
    | exit id =>
     simp only at e
     have hx := BX (id := id) hk
     cases hq : cS id k with
     | some k' =>
      rw [hq] at e
      simp at e
      subst e
      obtain ⟨kc', h1, h2⟩ := hx.1 k' hq
      exact go h2 (stepR_exit h1)
     | none =>
      rw [hq] at e
      simp only at e
      have hx2 := hx.2 hq
      refine nP e hlo hm hF hS hW htm (fun hr hj => ?_) (fun B v w1 cc cs1 hr hk' he => ?_)
      ·rcases hj with hj | hj <;> cases hj
      ·have := stepR_round_exit (P := P) (b := c) (a := ⟨c.tmps, c.defers⟩) (k := kc) (cs := cs1) (w := w) (c := cc) hr hk' hx2 he
       rw [hc] at this
       exact this
    | ret =>
     refine nP e hlo hm hF hS hW htm (fun hr _ => ?_) (fun B v w1 cc cs1 hr hk' he => ?_)
     ·have := stepR_ret (P := P) (b := c) (a := ⟨c.tmps, c.defers⟩) (k := kc) (cs := cs ++ tl) (w := w) hr
      rw [hc] at this
      exact this
     ·have := stepR_round_ret (P := P) (b := c) (a := ⟨c.tmps, c.defers⟩) (k := kc) (cs := cs1) (w := w) (c := cc) hr hk' he
      rw [hc] at this
      exact this
    | scope b => simp at e; subst e; exact go (.cons (.code _) (.cons (.inScope _) hk)) stepR_scope'
    | goto l => cases e
    | refuse y => cases e
    | region id ops dr =>
     cases dr with
     | false =>
      simp at e
      subst e
      have hz : fH μ (.kP ops 0 ops.toList :: k) (.inRegion ops (List.range ops.size) :: kc) := by
       have := fH.cons (j7.kP (μ := μ) ops 0) hk
       simpa [List.range_eq_range'] using this
      exact go hz stepR_region
     | true =>
      simp only at e
      split at e
      case h_2 => cases e
      case h_1 l hl =>
      split at e
      case h_2 => cases e
      case h_1 p hp =>
      obtain ⟨hok, e⟩ := aJ e
      simp at e
      subst e
      have ok := wV hok
      obtain ⟨hlin, hlen⟩ := vC ok.pred (w.tape w.drawn (.order c.fn id))
      have hs := stepR_region_draw (P := P) (b := c) (a := ⟨c.tmps, c.defers⟩) (ops := ops) (id := id) (k := kc) (cs := cs ++ tl) (w := w)
      rw [hc, K.mixed] at hs
      refine ⟨μ, _, cs, _, Steps.one hs, ⟨⟨lo, hlo, ⟨hF.fn, hF.has, hF.kind, hF.round, hF.defers, hF.size, ?_⟩, hS⟩, hW.drew _⟩⟩
      simp only
      rw [hm]
      refine .run rfl (.drawn (β := fun _ => 0) (plan := p) hk ⟨ok, ⟨[], rfl⟩, ⟨[], by simpa using hlin⟩, fun x hx => ?_, fun i hi hg => ?_, fun i hi j hj hg => ?_, fun t v hv _ => htm t v hv⟩ (by simp))
      ·refine Decidable.byContradiction fun hn => ?_
       have := eX ops.size (x.1 :: Region.schedule true ops (w.tape w.drawn (.order c.fn id))) (List.nodup_cons.2 ⟨hn, hlin.nodup⟩) (fun y hy => by
        rcases List.mem_cons.1 hy with rfl | hy
        ·exact ok.lt _ (List.mem_map.2 ⟨x, hx, rfl⟩)
        ·exact hlin.lt y hy)
       simp only [List.length_cons] at this
       omega
      ·obtain ⟨y, hy, hyi⟩ := List.mem_map.1 (ok.all i (hlin.lt i hi))
       exact absurd hyi (hg y hy)
      ·obtain ⟨y, hy, hyi⟩ := List.mem_map.1 (ok.all i (hlin.lt i hi))
       exact absurd hyi (hg y hy)
    | rangeFunc g ps assign body =>
     simp only at e
     split at e
     ·rename_i hro
      have hcr : c.roundOf = none := by have := hF.round; rw [hro] at this; exact this.om
      cases ha : me P (evalOp f.tm g) [.aF (h.new (.deferred (some []))).next] with
      | none => rw [ha] at e; cases e
      | some n =>
       rw [ha] at e
       simp only at e
       -- two blocks are laid
       have g1 : eS P μ (gH μ h.next (w.heap.size, 0, 0)) I w0 h (h.new (.deferred (some []))) (w.bn (.deferred (some []))) := jZ hW (.iy .nil)
       have hL : wa (gH μ h.next (w.heap.size, 0, 0)) I { state := .ready, pending := none, fn := f.fn, nt := f.nt, tm := f.tm, params := ps, assign, body, defers := h.next } { state := .ready, pending := none, fn := c.fn, tmps := c.tmps, params := ps, assign, body, defers := w.heap.size } :=
        ⟨rfl, rfl, hF.fn, hF.size, htm.mono g1.ext, rfl, rfl, rfl, ⟨0, 0, bR _ _ _⟩⟩
       have hn1 := g1.rel.fg
       have g2 := jZ (P := P) (N := 0) g1.rel (o := .loop { state := .ready, pending := none, fn := c.fn, tmps := c.tmps, params := ps, assign, body, defers := w.heap.size }) (.loop (hL.mono (.gH hn1)))
       have gg := g1.trans g2
       have hrun := run_enterLoop_outer (P := P) (w := w) c.fn c.tmps ps assign body
       have hyield : aL (gH (gH μ h.next (w.heap.size, 0, 0)) (h.new (.deferred (some []))).next ((w.bn (.deferred (some []))).heap.size, 0, 0)) I [.aF (h.new (.deferred (some []))).next] (#[.func (.yield (w.heap.size + 1)) #[] #[]] : Array Value).toList := by
        refine .cons ?_ .nil
        have := aG.aF (I := I) (bR (gH μ h.next (w.heap.size, 0, 0)) (h.new (.deferred (some []))).next ((w.bn (.deferred (some []))).heap.size, 0, 0))
        rw [fz] at this ⊢
        exact this
       have hR := pV K ha ((ev g).mono gg.ext) hyield ((w.bn (.deferred (some []))).bn (.loop { state := .ready, pending := none, fn := c.fn, tmps := c.tmps, params := ps, assign, body, defers := w.heap.size }))
       have hm2 : (gH (gH μ h.next (w.heap.size, 0, 0)) (h.new (.deferred (some []))).next ((w.bn (.deferred (some []))).heap.size, 0, 0)) (h.new (.deferred (some []))).next = some (w.heap.size + 1, 0, 0) := by
        rw [bR, fz]
       have hm1 : (gH (gH μ h.next (w.heap.size, 0, 0)) (h.new (.deferred (some []))).next ((w.bn (.deferred (some []))).heap.size, 0, 0)) h.next = some (w.heap.size, 0, 0) := by
        exact g2.ext.mu _ _ (bR _ _ _)
       have hF2 : eg P (gH (gH μ h.next (w.heap.size, 0, 0)) (h.new (.deferred (some []))).next ((w.bn (.deferred (some []))).heap.size, 0, 0)) I ((h.new (.deferred (some []))).new (.loop { state := .ready, pending := none, fn := f.fn, nt := f.nt, tm := f.tm, params := ps, assign, body, defers := h.next })) false lo h.next
         { f with todo := .inRangeFunc (h.new (.deferred (some []))).next :: k, defers := { yj := .collected h.next, args := [] } :: f.defers }
         (c.atR { tmps := c.tmps, defers := [{ target := .collected w.heap.size, args := #[] }] ++ c.defers } (.inRangeFunc (w.heap.size + 1) :: kc)) := by
        refine ⟨hF.fn, hF.has, hF.kind, hF.round.mono gg.ext, .cons (.collected hm1) (hF.defers.mono gg.ext), hF.size, ?_⟩
        simp only
        rw [hm]
        exact .run rfl (.plain (.cons (.inRangeFunc hm2) (hk.mono gg.ext.mu)) (htm.mono gg.ext))
       obtain ⟨c', cs', w'', k1, k2⟩ := pQ (tl := tl) K e (by exact hm) hF2 hlo gg.next (hS.mono gg.ext (fh gg hlo)) gg.rel hR
       refine ⟨_, c', cs', w'', Steps.one (step_lone_go ?_), k2⟩
       have hsr := kJ (P := P) (c := c) (a := ⟨c.tmps, c.defers⟩) (k := kc) (cs := cs ++ tl) (g := g) (w := w) (by rw [hcr]; exact hrun)
       rw [hc] at hsr
       rw [hsr]
       exact k1
     ·rename_i outer hro
      have hrr := hF.round
      rw [hro] at hrr
      obtain ⟨B, o, N, hcr, hmu⟩ := hrr.rW
      split at e
      case h_2 => cases e
      case h_1 r hg =>
      have hg' := ir hg
      obtain ⟨L, hLo, hLr⟩ := rA hW hg' hmu
      cases ha : me P (evalOp f.tm g) [.aF h.next] with
      | none => rw [ha] at e; cases e
      | some n =>
       rw [ha] at e
       simp only at e
       obtain ⟨od, Nd, hmd⟩ := hLr.defers
       have hn := hW.fg
       have hx : Ext μ (gH μ h.next (w.heap.size, 0, 0)) I I := .gH hn
       have hL : wa μ I { state := .ready, pending := none, fn := f.fn, nt := f.nt, tm := f.tm, params := ps, assign, body, defers := r.defers } { state := .ready, pending := none, fn := c.fn, tmps := c.tmps, params := ps, assign, body, defers := L.defers } :=
        ⟨rfl, rfl, hF.fn, hF.size, htm, rfl, rfl, rfl, ⟨od, Nd, hmd⟩⟩
       have gg := jZ (P := P) (N := 0) hW (o := .loop { state := .ready, pending := none, fn := c.fn, tmps := c.tmps, params := ps, assign, body, defers := L.defers }) (.loop (hL.mono hx))
       have hrun := run_enterLoop_inner (P := P) hLo c.fn c.tmps ps assign body
       have hyield : aL (gH μ h.next (w.heap.size, 0, 0)) I [.aF h.next] (#[.func (.yield w.heap.size) #[] #[]] : Array Value).toList :=
        .cons (.aF (bR _ _ _)) .nil
       have hR := pV K ha ((ev g).mono hx) hyield (w.bn (.loop { state := .ready, pending := none, fn := c.fn, tmps := c.tmps, params := ps, assign, body, defers := L.defers }))
       have hF2 : eg P (gH μ h.next (w.heap.size, 0, 0)) I (h.new (.loop { state := .ready, pending := none, fn := f.fn, nt := f.nt, tm := f.tm, params := ps, assign, body, defers := r.defers })) false lo h.next
         { f with todo := .inRangeFunc h.next :: k } (c.atR { tmps := c.tmps, defers := [] ++ c.defers } (.inRangeFunc w.heap.size :: kc)) := by
        refine ⟨hF.fn, hF.has, hF.kind, hF.round.mono hx, hF.defers.mono hx, hF.size, ?_⟩
        simp only
        rw [hm]
        exact .run rfl (.plain (.cons (.inRangeFunc (bR _ _ _)) (hk.mono hx.mu)) (htm.mono hx))
       obtain ⟨c', cs', w'', k1, k2⟩ := pQ (tl := tl) K e (by exact hm) hF2 hlo gg.next (hS.mono gg.ext (fh gg hlo)) gg.rel hR
       refine ⟨_, c', cs', w'', Steps.one (step_lone_go ?_), k2⟩
       have hsr := kJ (P := P) (c := c) (a := ⟨c.tmps, c.defers⟩) (k := kc) (cs := cs ++ tl) (g := g) (w := w) (by rw [hcr]; exact hrun)
       rw [hc] at hsr
       rw [hsr]
       exact k1
end
end Go.a9
namespace Go.a9
open Go.RowKit (Below)
set_option linter.unusedSectionVars false
section
variable {P : Program} {μ μ' : Mu} {I : fu} [ig I] {h h' : ah} {w0 w w' : World}
theorem iX.ended {act act' : Bool} {lo hi lo' hi' : Nat} {h h' : ah} {m : qO} {todo : List bu} {tm : Tr AV} {c c' : Frame} (x : Ext μ μ' I I) (hm : m ≠ .run) (e1 : c'.mode = c.mode) (e2 : c'.tmps = c.tmps) (r : iX P μ I h act lo hi m todo tm c) : iX P μ' I h' act' lo' hi' m todo tm c' := by
 cases r with
 | run a b => exact absurd rfl hm
 | ret a b => exact .ret (e1.trans a) (by rw [e2]; exact b.mono x)
 | tI a b d => exact .tI (e1.trans a) (b.mono x) (by rw [e2]; exact d.mono x)
theorem u7 {c : Frame} {cs : List Frame} (hm : c.mode ≠ .run) : stepG P true { frame := c, callers := cs, status := .running, dying := none } w = Go.unwind P true c cs none w := by
 obtain ⟨fn, tmps, todo, defers, mode, kind, roundOf⟩ := c
 cases mode with
 | run => exact absurd rfl hm
 | returning => rfl
 | panicking ch => rfl
theorem yg (K : cx P) {f : ak} {c : Frame} {callers : List ak} {cs tl : List Frame} {lo : Nat} {m' : bc} (e : a9.unwind P f callers h = some m') (hlo : lo <= h.next) (hm : f.mode ≠ .run) (hF : eg P μ I h true lo h.next f c)
  (hS : Stack P μ I h lo callers cs) (hW : bL μ I w0 h w) : Ad P I w0 m' c cs tl w := by
 have hcm : c.mode ≠ .run := by
  have := hF.st
  intro z
  cases hmf : f.mode with
  | run => exact hm hmf
  | returning => rw [hmf] at this; cases this with | ret a b => rw [z] at a; cases a
  | panicking ch => rw [hmf] at this; cases this with | tI a b d => rw [z] at a; cases a
 have hstep : ∀ {c' : Frame} {cs' : List Frame} {w1 : World}, (Go.unwind P true c (cs ++ tl) none w).bare = .go { frame := c', callers := cs' ++ tl, status := .running, dying := none } w1 -> step P (lone c (cs ++ tl) w) = .next (lone c' (cs' ++ tl) w1) := by
  intro c' cs' w1 hh
  refine step_lone_go ?_
  rw [u7 hcm]
  exact hh
 have hst2 : ∀ (ds : List Deferred) (h' : ah) (act' : Bool) (lo' hi' : Nat), iX P μ I h' act' lo' hi' f.mode f.todo f.tm { c with defers := ds } := fun ds h' a l hh => iX.ended (c := c) (.refl _ _) hm rfl rfl hF.st
 unfold a9.unwind at e
 have hds := hF.defers
 generalize hfd : f.defers = ads at e hds
 generalize hcd : c.defers = cds at hds
 cases hds with
 | nil =>
  simp only at e
  split at e
  ·cases e
  ·-- a panic goes on
   rename_i chain hmf
   split at e
   case h_2 => cases e
   case h_1 c1 rest =>
   simp at e
   subst e
   cases hS with
   | cons hF1 hlo1 hS1 =>
    rename_i lo1 cc cs1
    have hst := hF.st
    rw [hmf] at hst
    cases hst with
    | tI z1 z2 z3 =>
     rename_i b
     refine ⟨μ, cc.raise b, cs1, w, Steps.one (hstep ?_), ⟨⟨lo1, Nat.le_trans hlo1 hlo, uw hF1 z2, hS1⟩, hW⟩⟩
     obtain ⟨fn, hfn⟩ := hF.has
     have hfn' : P.funcs[c.fn]? = some fn := by rw [hF.fn]; exact hfn
     have hcatch : c.catches P = false := by unfold Frame.catches; rw [hfn']
     unfold Go.unwind
     rw [hcd]
     simp only [z1, hcatch, Bool.false_eq_true, if_false, List.cons_append, GStep.bare_go]
  ·-- a value is handed back
   rename_i hmf
   split at e
   case h_2 => cases e
   case h_1 fn hfn =>
   have hst := hF.st
   rw [hmf] at hst
   cases hst with
   | ret z1 z2 =>
    have hex : ∃ vs, bq P h f.tm fn.results.toList = some vs /\ dp P f callers (packed vs) h = some m' := by
     cases hr : bq P h f.tm fn.results.toList with
     | none => rw [hr] at e; cases e
     | some vs =>
      rw [hr] at e
      refine ⟨vs, rfl, ?_⟩
      cases vs with
      | nil => exact e
      | cons a b => cases b <;> exact e
    obtain ⟨vs, hr, e⟩ := hex
    obtain ⟨u, hu1, hu2⟩ := qk (P := P) hW z2 hr
    obtain ⟨cc, cs', rfl, k1, k2⟩ := qH (tl := tl) e hlo hS hW hu2
    have hfn' : P.funcs[c.fn]? = some fn := by rw [hF.fn]; exact hfn
    have hun : (Go.unwind P true c (cc :: cs' ++ tl) none w).bare = (doReturn P true c (cc :: cs' ++ tl) none u w).bare := by
     unfold Go.unwind
     rw [hcd]
     simp only [z1, hfn', Sem.runT_eq, hu1, GStep.bare_after]
    cases hd : f.deferred with
    | false =>
     have hk : c.kind = .normal := by rw [hF.kind, hd]; rfl
     refine ⟨μ, cc.finish u, cs', w, Steps.one (hstep ?_), k1 hd⟩
     rw [hun]
     simp [doReturn, hk]
    | true =>
     have hk : c.kind = .deferred := by rw [hF.kind, hd]; rfl
     refine ⟨μ, _, cs', w, Steps.one (hstep ?_), k2 hd⟩
     rw [hun]
     simp only [doReturn, hk, List.cons_append]
     rfl
 | cons hd hds =>
  rename_i ad d ads cds
  cases hd with
  | collected hmu =>
   rename_i r B o N a args
   simp only at e
   split at e
   case h_2 => cases e
   case h_1 calls hg =>
   simp at e
   subst e
   obtain ⟨obj, ho, hor⟩ := hW.bj _ _ _ _ _ hg hmu
   cases hor with
   | iy hcalls =>
    rename_i ccs
    have hrun := run_takeDeferred (P := P) ho
    have g : eS P μ μ I w0 h (h.set r (.deferred none)) (w.putObj B (.deferred none)) := by
     refine ⟨.refl _ _, hW.update hg hmu .kE, Nat.le_refl _, fun b hb e => ⟨e, ?_⟩⟩
     rw [ah.aP, if_neg (fun q => by subst q; rw [hmu] at e; cases e)]
    refine ⟨μ, { c with defers := ccs ++ cds }, cs, _, Steps.one (hstep ?_), ⟨⟨lo, hlo, ⟨hF.fn, hF.has, hF.kind, hF.round, hcalls.append hds, hF.size, hst2 _ _ _ _ _⟩, nf g hlo hS⟩, g.rel⟩⟩
    unfold Go.unwind
    rw [hcd]
    simp only [Sem.runT_eq, hrun, GStep.bare_after, GStep.bare_go]
  | func hargs =>
   rename_i gf a cap args
   simp only at e
   split at e
   case h_2 => cases e
   case h_1 g he =>
   simp at e
   subst e
   have hE := pK he hargs true h.next h.next h
   simp only [if_true] at hE
   have hbody : ∃ fn cd, P.funcs[gf]? = some fn /\ fn.body = some cd := by
    unfold enter at he
    cases hf : P.funcs[gf]? with
    | none => rw [hf] at he; cases he
    | some fn =>
     rw [hf] at he
     simp only at he
     cases hb : fn.body with
     | none => rw [hb] at he; cases he
     | some cd => exact ⟨fn, cd, rfl, hb⟩
   obtain ⟨fn, cd, hf, hb⟩ := hbody
   refine ⟨μ, Frame.enter P gf (args ++ cap) .deferred, { c with defers := cds } :: cs, w, Steps.one (hstep ?_), ⟨⟨h.next, Nat.le_refl _, hE, .cons (lo := lo) ⟨hF.fn, hF.has, hF.kind, hF.round, hds, hF.size, hst2 _ _ _ _ _⟩ hlo hS⟩, hW⟩⟩
   unfold Go.unwind
   rw [hcd]
   simp only [callDeferred, Bool.false_and, Bool.false_eq_true, if_false, Sem.runT_eq, invoke, oJ K hf hb, GStep.bare_after, GStep.bare_go, List.cons_append]
theorem uR (K : cx P) {pl : fR} {m m' : bc} {c : Frame} {cs tl : List Frame} (e : kM P pl m = some m') (r : oS P μ I w0 m c cs w) : Ad P I w0 m' c cs tl w := by
 obtain ⟨⟨lo, hlo, hF, hS⟩, hW⟩ := r
 unfold kM at e
 split at e
 ·rename_i hm
  exact BY K e hlo hm hF hS hW
 ·rename_i hm
  exact yg K e hlo hm hF hS hW
theorem xO (K : cx P) {pl : fR} : ∀ (n : Nat) {m m' : bc} {μ : Mu} {c : Frame} {cs tl : List Frame} {w : World}, AZ P pl n m = some m' -> oS P μ I w0 m c cs w -> Ad P I w0 m' c cs tl w
 | 0, m, m', μ, c, cs, tl, w, e, r => by simp [AZ] at e; subst e; exact ⟨μ, c, cs, w, Steps.refl _ _, r⟩
 | n + 1, m, m', μ, c, cs, tl, w, e, r => by
  unfold AZ at e
  cases h1 : kM P pl m with
  | none => rw [h1] at e; cases e
  | some m1 =>
   rw [h1] at e
   obtain ⟨μ1, c1, cs1, w1, s1, r1⟩ := uR (tl := tl) K h1 r
   obtain ⟨μ2, c2, cs2, w2, s2, r2⟩ := xO K n (tl := tl) e r1
   exact ⟨μ2, c2, cs2, w2, s1.trans s2, r2⟩
theorem tX (w : World) (himm : ∀ B o v, I B o = some v -> w.cell? ⟨B, o, none⟩ = some v) : bL (fun _ => none) I w { next := 0, t := .nil } w :=
 ⟨Below.refl _ _, fun b ob e => by simp [ah.get, Tr.get_nil] at e, fun b B o N e => by simp at e, fun b ob B o N e => by simp [ah.get, Tr.get_nil] at e, fun b b' ob ob' B o N o' N' e => by simp [ah.get, Tr.get_nil] at e,
  fun B o v e => ⟨himm B o v e, rfl, fun b ob o' N e => by simp [ah.get, Tr.get_nil] at e⟩⟩
end
end Go.a9
namespace Go.a9
noncomputable section
inductive nR where
 | val (v : AV)
 | new (ob : fO) (v : AV)
 | next (n : j9) (h : ah)
 | no
def nR.mT (r : Option AV) : nR := Option.rec (motive := fun _ => nR) .no (fun v => .val v) r
def nR.vt (r : Option (j9 × ah)) : nR := Option.rec (motive := fun _ => nR) .no (fun p => .next p.1 p.2) r
def nR.wY (r : Option (fO × AV)) : nR := Option.rec (motive := fun _ => nR) .no (fun p => .new p.1 p.2) r
def kZ (P : Program) (h : ah) (tm : Tr AV) (o : Oper) : nR :=
 match bz P h tm o with
 | some v => .val v
 | none => match bH P h.next tm o with
  | some (ob, v) => .new ob v
  | none => match cQ P h tm o with
   | some (n, h) => .next n h
   | none => .no
structure EK where
 run : Tr AV -> AV
def jb (x : Operand) : EK :=
 match x with
 | .tmp t => ⟨fun tm => Option.rec (motive := fun _ => AV) .bad (fun v => v) ((eC AV (Nat.succ t) t).get tm)⟩
 | .const v => ⟨fun _ => x8 v⟩
 | .global g => ⟨fun _ => gv g⟩
 | .func f => ⟨fun _ => .func f [] []⟩
theorem lE (x : Operand) (tm : Tr AV) : (jb x).run tm = evalOp tm x := by
 cases x with
 | tmp t => simp only [jb, evalOp, bJ, Tr.get]; cases (eC AV (Nat.succ t) t).get tm <;> rfl
 | const v => rfl
 | global g => rfl
 | func f => rfl
structure EJ where
 run : AV -> AV -> Option AV
def D6 (P : Program) (op : BinOp) (t : TypeId) (x y : Operand) : EJ :=
 match op with
 | .add => ⟨fun a b => match a with
  | .int j m => match b with
   | .int k n => cond (decide (j = k)) (some (.int j (iV j (Int.add m n)))) none
   | b => nQ P .add t x y (.int j m) b
  | a => nQ P .add t x y a b⟩
 | op => ⟨fun a b => nQ P op t x y a b⟩
theorem sR (P : Program) (op : BinOp) (t : TypeId) (x y : Operand) (a b : AV) : (D6 P op t x y).run a b = nQ P op t x y a b := by
 cases op <;> try rfl
 cases a <;> try rfl
 cases b <;> try rfl
structure EN where
 run : ah -> Tr AV -> nR
def xj (P : Program) (o : Oper) : EN :=
 match o.op with
 | .move x => ⟨fun _ tm => .val ((jb x).run tm)⟩
 | .assign x => ⟨fun _ tm => .val ((jb x).run tm)⟩
 | .pick c a b => ⟨fun _ tm => .mT (pick ((jb c).run tm) ((jb a).run tm) ((jb b).run tm))⟩
 | .load t a => ⟨fun h tm => .mT (fE P h t ((jb a).run tm))⟩
 | .binOp op t x y _ => ⟨fun _ tm => .mT ((D6 P op t x y).run ((jb x).run tm) ((jb y).run tm))⟩
 | .unOp op _ x => ⟨fun _ tm => .mT (Eg op ((jb x).run tm))⟩
 | .convert s d x => ⟨fun _ tm => .mT (tp P s d ((jb x).run tm))⟩
 | .fieldAddr s x f => ⟨fun _ tm => .mT (dX P s ((jb x).run tm) f)⟩
 | .field s x f => ⟨fun _ tm => .mT (pT P s ((jb x).run tm) f)⟩
 | .indexAddr t x i => ⟨fun _ tm => .mT (cE P t ((jb x).run tm) ((jb i).run tm))⟩
 | .index t x i => ⟨fun _ tm => .mT (pS P t ((jb x).run tm) ((jb i).run tm))⟩
 | .store t a x => ⟨fun h tm => .vt ((gA P h t ((jb a).run tm) ((jb x).run tm)).map fun h => (.value .bad, h))⟩
 | .alloc t => ⟨fun h tm => .wY (bH P h.next tm o)⟩
 | .box t x => ⟨fun h tm => .wY (bH P h.next tm o)⟩
 | .buildSlice t n p => ⟨fun h tm => .wY (bH P h.next tm o)⟩
 | .makeSlice t n p => ⟨fun h tm => .wY (bH P h.next tm o)⟩
 | .call c => match c.callee with
  | .builtin b => match b with
   | .append => ⟨fun h tm => .vt (cQ P h tm o)⟩
   | _ => ⟨fun h tm => kZ P h tm o⟩
  | .value f => ⟨fun h tm => .vt ((me P ((jb f).run tm) (c.args.toList.map (evalOp tm))).map fun n => (n, h))⟩
  | _ => ⟨fun h tm => kZ P h tm o⟩
 | _ => ⟨fun h tm => kZ P h tm o⟩
theorem nR.sF (r : Option AV) : nR.mT r = match r with | some v => .val v | none => .no := by cases r <;> rfl
theorem nR.jU (r : Option (j9 × ah)) : nR.vt r = match r with | some (n, h) => .next n h | none => .no := by cases r <;> rfl
theorem nR.sG (r : Option (fO × AV)) : nR.wY r = match r with | some (n, h) => .new n h | none => .no := by cases r <;> rfl
theorem xi (P : Program) (o : Oper) (h : ah) (tm : Tr AV) : (xj P o).run h tm = kZ P h tm o := by
 obtain ⟨dst, op, type, guard, pos, after⟩ := o
 cases op
 case call c =>
  obtain ⟨callee, args, argTypes⟩ := c
  cases callee
  case builtin b =>
   cases b <;> try rfl
   simp only [xj, nR.jU, kZ, bz, bH]
  case value f =>
   simp only [xj, nR.jU, kZ, bz, bH, lE, cQ]
  all_goals rfl
 all_goals first
  | rfl
  | (simp only [xj, nR.sF, nR.jU, nR.sG, kZ, bz, bH, cQ, lE, sR]; done)
  | (simp only [xj, nR.sF, nR.jU, nR.sG, kZ, bz, bH, cQ, lE, sR]; rfl)
  | (simp only [xj, nR.sF, nR.jU, nR.sG, kZ, bz, bH, cQ, lE, sR]; split <;> simp_all)
end
end Go.a9
namespace Go.a9
noncomputable section
def Dx (P : Program) (h : ah) (tm : Tr AV) (ops : Array Oper) (o : Oper) : nR :=
 match aY ops tm o with
 | some true => kZ P h tm o
 | some false => .val (.tuple [])
 | none => .no
def D5 (P : Program) (ops : Array Oper) (o : Oper) : EN :=
 match o.guard with
 | none => xj P o
 | some _ => ⟨fun h tm => match aY ops tm o with
  | some b => Bool.rec (motive := fun _ => nR) (.val (.tuple [])) ((xj P o).run h tm) b
  | none => .no⟩
theorem CN (P : Program) (ops : Array Oper) (o : Oper) (h : ah) (tm : Tr AV) : (D5 P ops o).run h tm = Dx P h tm ops o := by
 unfold D5 Dx
 cases hg : o.guard with
 | none => simp only [xi, aY, hg]
 | some g =>
  simp only
  cases aY ops tm o with
  | none => rfl
  | some b => cases b <;> simp [xi]
def AR (P : Program) (h : ah) (fr : ak) (callers : List ak) (v : AV) : Option bc :=
 match fr with
 | ⟨fn, nt, tm, todo, defers, mode, deferred, roundOf⟩ => match todo with
  | [] => none
  | it :: k => match it with
   | .kP ops i rest => match rest with
    | [] => none
    | o :: rest => match o.dst with
     | none => some ⟨⟨fn, nt, tm, .kP ops (Nat.succ i) rest :: k, defers, mode, deferred, roundOf⟩, callers, h⟩
     | some d => cond (Nat.blt d nt) (some ⟨⟨fn, nt, tm.set d v, .kP ops (Nat.succ i) rest :: k, defers, mode, deferred, roundOf⟩, callers, h⟩) none
   | .cU ops rest => match rest with
    | [] => none
    | x :: rest => match x with
     | (i, chk) => match ops[i]? with
      | none => none
      | some o => match o.dst with
       | none => cond (again P h tm ops chk) (some ⟨⟨fn, nt, tm, .cU ops rest :: k, defers, mode, deferred, roundOf⟩, callers, h⟩) none
       | some d => cond (Nat.blt d nt) (cond (again P h (tm.set d v) ops chk) (some ⟨⟨fn, nt, tm.set d v, .cU ops rest :: k, defers, mode, deferred, roundOf⟩, callers, h⟩) none) none
   | it => match bF P h ⟨fn, nt, tm, it :: k, defers, mode, deferred, roundOf⟩ v with
    | some fr => some ⟨fr, callers, h⟩
    | none => none
def yX (P : Program) (h : ah) (fr : ak) (callers : List ak) (v : AV) : Option bc :=
 match bF P h fr v with
 | some fr => some { fr, callers, h }
 | none => none
theorem oE (P : Program) (h : ah) (fr : ak) (callers : List ak) (v : AV) : AR P h fr callers v = yX P h fr callers v := by
 obtain ⟨fn, nt, tm, todo, defers, mode, deferred, roundOf⟩ := fr
 unfold AR yX
 cases todo with
 | nil => rfl
 | cons it k =>
  cases it
  case kP ops i rest =>
   cases rest with
   | nil => rfl
   | cons o rest =>
    simp only [bF, jg]
    cases o.dst with
    | none => rfl
    | some d => simp only; cases Nat.blt d nt <;> rfl
  case cU ops rest =>
   cases rest with
   | nil => rfl
   | cons x rest =>
    obtain ⟨i, chk⟩ := x
    simp only [bF, jg]
    cases ops[i]? with
    | none => rfl
    | some o =>
     simp only
     cases o.dst with
     | none => simp only; cases again P h tm ops chk <;> rfl
     | some d =>
      simp only
      cases Nat.blt d nt with
      | false => rfl
      | true => simp only [cond_true]; cases again P h (tm.set d v) ops chk <;> rfl
  all_goals rfl
def En (P : Program) (h : ah) (o : Oper) (fr : ak) (callers : List ak) (r : nR) : Option bc :=
 match r with
 | .val v => AR P h fr callers v
 | .new ob v => AR P (h.new ob) fr callers v
 | .next n h => match n with
  | .value v => AR P h fr callers v
  | .enter f args => match enter P f args false with
   | some g => some ⟨g, fr :: callers, h⟩
   | none => none
  | n => apply P fr callers n h (match o.op with | .call c => c.args.toList.map (evalOp fr.tm) | _ => [])
 | .no => none
theorem BM (P : Program) (h : ah) (ops : Array Oper) (o : Oper) (fr : ak) (callers : List ak) :
  En P h o fr callers ((D5 P ops o).run h fr.tm) = iW P fr callers h ops o := by
 rw [CN]
 unfold En iW Dx kZ
 cases aY ops fr.tm o with
 | none => rfl
 | some b =>
  cases b with
  | false => simp only [oE, yX]; rfl
  | true =>
   simp only
   cases bz P h fr.tm o with
   | some v => simp only [oE, yX]; rfl
   | none =>
    simp only
    cases bH P h.next fr.tm o with
    | some x => obtain ⟨ob, v⟩ := x; simp only [oE, yX]; rfl
    | none =>
     simp only
     cases cQ P h fr.tm o with
     | none => rfl
     | some x =>
      obtain ⟨n, h'⟩ := x
      cases n <;> first | rfl | (simp only [oE, yX, apply]; rfl)
structure Ds where
 run : FuncId -> Nat -> Tr AV -> List bu -> List iZ -> Bool -> Option Nat -> List ak -> ah -> Option bc
def BI (P : Program) (pl : fR) (c : Code) : Ds :=
 match c with
 | .skip => ⟨fun fn nt tm k ds df ro cs h => some ⟨⟨fn, nt, tm, k, ds, .run, df, ro⟩, cs, h⟩⟩
 | .seq a b => ⟨fun fn nt tm k ds df ro cs h => some ⟨⟨fn, nt, tm, .code a :: .code b :: k, ds, .run, df, ro⟩, cs, h⟩⟩
 | .cond c thn bx => ⟨fun fn nt tm k ds df ro cs h => match (jb c).run tm with
  | .bool b => Bool.rec (motive := fun _ => Option bc) (some ⟨⟨fn, nt, tm, .code bx :: k, ds, .run, df, ro⟩, cs, h⟩) (some ⟨⟨fn, nt, tm, .code thn :: k, ds, .run, df, ro⟩, cs, h⟩) b
  | _ => none⟩
 | .block id body => ⟨fun fn nt tm k ds df ro cs h => some ⟨⟨fn, nt, tm, .code body :: .inBlock id :: k, ds, .run, df, ro⟩, cs, h⟩⟩
 | .loop body => ⟨fun fn nt tm k ds df ro cs h => some ⟨⟨fn, nt, tm, .code body :: .inLoop body :: k, ds, .run, df, ro⟩, cs, h⟩⟩
 | .scope body => ⟨fun fn nt tm k ds df ro cs h => some ⟨⟨fn, nt, tm, .code body :: .inScope body :: k, ds, .run, df, ro⟩, cs, h⟩⟩
 | .exit id => ⟨fun fn nt tm k ds df ro cs h => match cS id k with
  | some k => some ⟨⟨fn, nt, tm, k, ds, .run, df, ro⟩, cs, h⟩
  | none => fF P ⟨fn, nt, tm, .code (.exit id) :: k, ds, .run, df, ro⟩ cs h (some (.exit id))⟩
 | .ret => ⟨fun fn nt tm k ds df ro cs h => match ro with
  | none => some ⟨⟨fn, nt, tm, .code .ret :: k, ds, .returning, df, none⟩, cs, h⟩
  | some l => fF P ⟨fn, nt, tm, .code .ret :: k, ds, .run, df, some l⟩ cs h (some .ret)⟩
 | .region id ops d => Bool.rec (motive := fun _ => Ds)
   ⟨fun fn nt tm k ds df ro cs h => some ⟨⟨fn, nt, tm, .kP ops (nat_lit 0) ops.toList :: k, ds, .run, df, ro⟩, cs, h⟩⟩
   ⟨fun fn nt tm k ds df ro cs h => match b9 fn pl with
    | some l => match b9 id l with
     | some p => cond (sy ops p) (some ⟨⟨fn, nt, tm, .cU ops p :: k, ds, .run, df, ro⟩, cs, h⟩) none
     | none => none
    | none => none⟩ d
 | c => ⟨fun fn nt tm k ds df ro cs h => exec P pl ⟨fn, nt, tm, .code c :: k, ds, .run, df, ro⟩ cs h⟩
theorem AI (P : Program) (pl : fR) (c : Code) (fn : FuncId) (nt : Nat) (tm : Tr AV) (k : List bu) (ds : List iZ) (df : Bool) (ro : Option Nat) (cs : List ak) (h : ah) :
  (BI P pl c).run fn nt tm k ds df ro cs h = exec P pl ⟨fn, nt, tm, .code c :: k, ds, .run, df, ro⟩ cs h := by
 cases c
 case cond c thn bx =>
  simp only [BI, lE, exec]
  cases evalOp tm c <;> try rfl
  rename_i b; cases b <;> rfl
 case ret => cases ro <;> rfl
 case region id ops d =>
  cases d with
  | false => rfl
  | true => rfl
 all_goals rfl
def CD (P : Program) (fr : ak) (callers : List ak) (v : AV) (h : ah) : Option bc :=
 match callers with
 | [] => none
 | c :: rest => match fr.deferred with
  | true => dp P fr (c :: rest) v h
  | false => match c.mode with
   | .run => AR P h c rest v
   | _ => none
theorem CC (P : Program) (fr : ak) (callers : List ak) (v : AV) (h : ah) : CD P fr callers v h = dp P fr callers v h := by
 cases callers with
 | nil => rfl
 | cons c rest =>
  unfold CD
  cases hd : fr.deferred with
  | true => rfl
  | false =>
   simp only [dp, hd, cond_false, oE, yX]
   cases c.mode <;> rfl
def uZ (P : Program) (fr : ak) (callers : List ak) (h : ah) : Option bc :=
 match fr with
 | ⟨fn, nt, tm, todo, defers, mode, deferred, roundOf⟩ => match defers with
  | [] => match mode with
   | .returning => match P.funcs[fn]? with
    | some f => match bq P h tm f.results.toList with
     | some [v] => CD P ⟨fn, nt, tm, todo, defers, mode, deferred, roundOf⟩ callers v h
     | some vs => CD P ⟨fn, nt, tm, todo, defers, mode, deferred, roundOf⟩ callers (.tuple vs) h
     | none => none
    | none => none
   | m => unwind P ⟨fn, nt, tm, todo, [], m, deferred, roundOf⟩ callers h
  | ds => unwind P ⟨fn, nt, tm, todo, ds, mode, deferred, roundOf⟩ callers h
theorem rM (P : Program) (fr : ak) (callers : List ak) (h : ah) : uZ P fr callers h = unwind P fr callers h := by
 obtain ⟨fn, nt, tm, todo, defers, mode, deferred, roundOf⟩ := fr
 cases defers with
 | cons d ds => rfl
 | nil =>
  cases mode <;> try rfl
  simp only [uZ, unwind, CC]
  rfl
def zg (P : Program) (pl : fR) (m : bc) : Option bc :=
 match m with
 | ⟨fr, callers, h⟩ => match fr with
  | ⟨fn, nt, tm, todo, defers, mode, deferred, roundOf⟩ => match mode with
   | .run => match todo with
    | [] => fF P ⟨fn, nt, tm, [], defers, .run, deferred, roundOf⟩ callers h none
    | it :: k => match it with
     | .code c => (BI P pl c).run fn nt tm k defers deferred roundOf callers h
     | .kP ops i rest => match rest with
      | [] => some ⟨⟨fn, nt, tm, k, defers, .run, deferred, roundOf⟩, callers, h⟩
      | o :: rest => En P h o ⟨fn, nt, tm, .kP ops i (o :: rest) :: k, defers, .run, deferred, roundOf⟩ callers ((D5 P ops o).run h tm)
     | .cU ops rest => match rest with
      | [] => some ⟨⟨fn, nt, tm, k, defers, .run, deferred, roundOf⟩, callers, h⟩
      | x :: rest => match x with
       | (i, chk) => match ops[i]? with
        | some o => En P h o ⟨fn, nt, tm, .cU ops ((i, chk) :: rest) :: k, defers, .run, deferred, roundOf⟩ callers ((D5 P ops o).run h tm)
        | none => none
     | .inBlock _ => some ⟨⟨fn, nt, tm, k, defers, .run, deferred, roundOf⟩, callers, h⟩
     | .inScope _ => some ⟨⟨fn, nt, tm, k, defers, .run, deferred, roundOf⟩, callers, h⟩
     | .inLoop body => some ⟨⟨fn, nt, tm, .code body :: .inLoop body :: k, defers, .run, deferred, roundOf⟩, callers, h⟩
     | it => exec P pl ⟨fn, nt, tm, it :: k, defers, .run, deferred, roundOf⟩ callers h
   | mode => uZ P ⟨fn, nt, tm, todo, defers, mode, deferred, roundOf⟩ callers h
theorem AY (P : Program) (pl : fR) (m : bc) : zg P pl m = kM P pl m := by
 obtain ⟨⟨fn, nt, tm, todo, defers, mode, deferred, roundOf⟩, callers, h⟩ := m
 unfold kM zg
 cases mode with
 | returning => simp only [rM]
 | panicking c => simp only [rM]
 | run =>
  cases todo with
  | nil => rfl
  | cons it k =>
   cases it
   case code c => simp only [AI]
   case kP ops i rest =>
    cases rest with
    | nil => rfl
    | cons o rest => exact BM P h ops o ⟨fn, nt, tm, .kP ops i (o :: rest) :: k, defers, .run, deferred, roundOf⟩ callers
   case cU ops rest =>
    cases rest with
    | nil => rfl
    | cons x rest =>
     obtain ⟨i, chk⟩ := x
     simp only [exec]
     cases ops[i]? with
     | none => rfl
     | some o => exact BM P h ops o ⟨fn, nt, tm, .cU ops ((i, chk) :: rest) :: k, defers, .run, deferred, roundOf⟩ callers
   all_goals rfl
def oM (P : Program) (pl : fR) : Nat -> bc -> Option bc
 | 0, m => some m
 | n + 1, m => match zg P pl m with
  | some m => oM P pl n m
  | none => none
theorem xP (P : Program) (pl : fR) : ∀ (n : Nat) (m : bc), oM P pl n m = AZ P pl n m
 | 0, m => rfl
 | n + 1, m => by
  simp only [oM, AZ, AY]
  cases kM P pl m with
  | none => rfl
  | some m => exact xP P pl n m
end
end Go.a9
namespace Go.a9
open Go.RowKit (Below)
set_option linter.unusedSectionVars false
noncomputable def uI (h : ah) : List Nat -> Tr fO
 | [] => .nil
 | b :: l => match h.get b with
  | some o => (uI h l).set b o
  | none => uI h l
noncomputable def qz (h : ah) (cJ : List Nat) : ah := { next := h.next, t := uI h cJ }
theorem pB (h : ah) : ∀ (l : List Nat) (b : Nat), (uI h l).get b = if b ∈ l then h.get b else none
 | [], b => by simp [uI, Tr.get_nil]
 | c :: l, b => by
  unfold uI
  cases hc : h.get c with
  | none =>
   simp only [pB h l b, List.mem_cons]
   by_cases e : b = c
   ·subst e; simp [hc]
   ·simp [e]
  | some o =>
   simp only [Tr.aP, pB h l b, List.mem_cons]
   by_cases e : b = c
   ·subst e; simp [hc]
   ·simp [e]
theorem uJ (h : ah) (l : List Nat) (b : Nat) : (qz h l).get b = if b ∈ l then h.get b else none := pB h l b
def Aa : AV -> Option Nat
 | .ptr b _ => some b
 | .slice b _ _ _ => some b
 | .map b => some b
 | _ => none
noncomputable def pinned (cJ : List Nat) (tm : Tr AV) (o : Oper) : Bool :=
 !oy o || match o.dst with
  | some d => match Aa (bJ tm d) with
   | some b => cJ.contains b
   | none => true
  | none => true
noncomputable def zQ (cJ : List Nat) (f : ak) : Bool :=
 match f.todo with
 | .cU ops _ :: _ => ops.toList.all (pinned cJ f.tm)
 | _ => true
def quiet (f : ak) : Bool :=
 match f.todo with
 | .cU _ _ :: _ => false
 | _ => true
noncomputable def cut (cJ : List Nat) (m : bc) : Option bc :=
 cond (quiet m.fr && m.callers.all (zQ cJ)) (some { fr := m.fr, callers := m.callers, h := qz m.h cJ }) none
theorem vX {P : Program} {n : Nat} {tm : Tr AV} {o : Oper} {ob : fO} {v : AV} (e : bH P n tm o = some (ob, v)) : Aa v = some n := by
 unfold bH at e
 split at e
 ·split at e
  ·obtain ⟨_, e⟩ := aJ e; cases e; rfl
  ·cases e
 ·split at e
  ·cases e
  ·obtain ⟨_, e⟩ := aJ e; cases e; rfl
 ·split at e
  ·split at e
   ·obtain ⟨_, e⟩ := aJ e
    split at e
    ·obtain ⟨_, e⟩ := aJ e; cases e; rfl
    ·cases e
   ·cases e
  ·cases e
 ·split at e
  ·split at e
   ·obtain ⟨_, e⟩ := aJ e; cases e; rfl
   ·cases e
  ·cases e
 ·split at e
  ·cases e; rfl
  ·split at e
   ·cases e; rfl
   ·cases e
 ·cases e
section
variable {P : Program} {μ : Mu} {I : fu} [ig I] {h : ah} {w0 w : World} {cJ : List Nat}
theorem eR.kept {lo hi : Nat} {ops : Array Oper} {tm : Tr AV} {o : Oper} {d β : Nat} (hd : o.dst = some d) (hp : pinned cJ tm o = true) (p : eR P μ h false lo hi ops tm o d β) : eR P μ (qz h cJ) false lo hi ops tm o d β := by
 unfold eR at p ⊢
 cases hw : aY ops tm o with
 | none => rw [hw] at p; exact p
 | some b =>
  rw [hw] at p
  cases b with
  | false => exact p
  | true =>
   simp only at p ⊢
   split at p
   ·rename_i hn
    obtain ⟨ob, h1, h2, h3, h4, h5⟩ := p
    rw [if_pos hn]
    have hb := vX h1
    unfold pinned at hp
    simp only [hn, Bool.not_true, Bool.false_or, hd, hb] at hp
    refine ⟨ob, h1, h2, ?_, h4, h5⟩
    rw [uJ, if_pos (by simpa using hp)]; exact h3
   ·rename_i hn
    rw [if_neg hn]
    intro hr
    have hr' : reads o = false := hr.resolve_left (by simp)
    rw [ma (h' := h) hr']
    exact p (.inr hr')
theorem eg.kept {lo hi : Nat} {f : ak} {c : Frame} (hp : zQ cJ f = true) (r : eg P μ I h false lo hi f c) : eg P μ I (qz h cJ) false lo hi f c := by
 refine ⟨r.fn, r.has, r.kind, r.round, r.defers, r.size, ?_⟩
 have hs := r.st
 obtain ⟨fn, nt, tm, todo, defers, mode, deferred, roundOf⟩ := f
 simp only at hs ⊢
 cases hs with
 | ret a b => exact .ret a b
 | tI a b c => exact .tI a b c
 | run a b =>
  refine .run a ?_
  generalize c.todo = ct at b ⊢
  generalize c.tmps = cm at b ⊢
  cases b with
  | plain a b => exact .plain a b
  | drawn a b c =>
   refine .drawn a ⟨b.ok, b.pre, b.DQ, b.sub, fun i hi hg => ?_, b.inj, b.DP⟩ c
   obtain ⟨o, d, h1, h2, h3, h5, h4⟩ := b.Bw i hi hg
   refine ⟨o, d, h1, h2, h3, h5, h4.kept h2 ?_⟩
   unfold zQ at hp
   simp only [List.all_eq_true] at hp
   exact hp o (Array.mem_toList_iff.2 (Array.mem_of_getElem? h1))
theorem eg.AH {lo hi : Nat} {f : ak} {c : Frame} (hp : quiet f = true) (r : eg P μ I h true lo hi f c) : eg P μ I (qz h cJ) true lo hi f c := by
 refine ⟨r.fn, r.has, r.kind, r.round, r.defers, r.size, ?_⟩
 have hs := r.st
 obtain ⟨fn, nt, tm, todo, defers, mode, deferred, roundOf⟩ := f
 simp only at hs ⊢
 cases hs with
 | ret a b => exact .ret a b
 | tI a b c => exact .tI a b c
 | run a b =>
  refine .run a ?_
  generalize c.todo = ct at b ⊢
  generalize c.tmps = cm at b ⊢
  cases b with
  | plain a b => exact .plain a b
  | drawn a b c => simp [quiet] at hp
theorem Stack.kept {ub : Nat} {fs : List ak} {cs : List Frame} (r : Stack P μ I h ub fs cs) (hp : fs.all (zQ cJ) = true) : Stack P μ I (qz h cJ) ub fs cs := by
 induction r with
 | nil => exact .nil
 | cons a b _ ih =>
  simp only [List.all_cons, Bool.and_eq_true] at hp
  exact .cons (a.kept hp.1) b (ih hp.2)
theorem bL.kept (W : bL μ I w0 h w) : bL μ I w0 (qz h cJ) w := by
 have hk : ∀ c ob, (qz h cJ).get c = some ob -> h.get c = some ob := by
  intro c ob e; rw [uJ] at e; split at e
  ·exact e
  ·cases e
 exact ⟨W.below, fun c ob e => W.live c ob (hk c ob e), W.mapped, fun c ob B o N e m => W.bj c ob B o N (hk c ob e) m,
  fun c c' ob ob' B o N o' N' e e' => W.inj c c' ob ob' B o N o' N' (hk _ _ e) (hk _ _ e'),
  fun B o v e => ⟨(W.wc B o v e).1, rfl, fun c ob o' N e' => (W.wc B o v e).2.2 c ob o' N (hk _ _ e')⟩⟩
theorem oS.cut {m m' : bc} {c : Frame} {cs : List Frame} (e : cut cJ m = some m') (r : oS P μ I w0 m c cs w) : oS P μ I w0 m' c cs w := by
 unfold a9.cut at e
 obtain ⟨hq, e⟩ := aJ e
 cases e
 simp only [Bool.and_eq_true] at hq
 obtain ⟨⟨lo, h1, h2, h3⟩, hW⟩ := r
 exact ⟨⟨lo, h1, h2.AH hq.1, h3.kept hq.2⟩, hW.kept⟩
end
def bP (P : Program) (m m' : bc) : Prop :=
 ∀ (I : fu) [ig I] (w0 : World) (μ : Mu) (c : Frame) (cs tl : List Frame) (w : World), oS P μ I w0 m c cs w -> Ad P I w0 m' c cs tl w
theorem bP.refl {P : Program} (m : bc) : bP P m m := fun I _ w0 μ c cs tl w r => ⟨μ, c, cs, w, Steps.refl _ _, r⟩
theorem bP.trans {P : Program} {a b d : bc} (x : bP P a b) (y : bP P b d) : bP P a d := fun I _ w0 μ c cs tl w r => by
 obtain ⟨μ1, c1, cs1, w1, s1, r1⟩ := x I w0 μ c cs tl w r
 obtain ⟨μ2, c2, cs2, w2, s2, r2⟩ := y I w0 μ1 c1 cs1 tl w1 r1
 exact ⟨μ2, c2, cs2, w2, s1.trans s2, r2⟩
theorem uF {P : Program} (K : cx P) {pl : fR} {n : Nat} {m m' : bc} (e : oM P pl n m = some m') : bP P m m' := fun I _ w0 μ c cs tl w r =>
 xO K n (by rw [<- xP]; exact e) r
theorem AE {P : Program} {cJ : List Nat} {m m' : bc} (e : cut cJ m = some m') : bP P m m' := fun I _ w0 μ c cs tl w r => ⟨μ, c, cs, w, Steps.refl _ _, r.cut e⟩
theorem xh {P : Program} (K : cx P) {pl : fR} {n : Nat} {cJ : List Nat} {m m' : bc} (e : (oM P pl n m).bind (cut cJ) = some m') : bP P m m' := by
 cases h : oM P pl n m with
 | none => rw [h] at e; cases e
 | some x => rw [h] at e; exact (uF K h).trans (AE e)
noncomputable def zd (P : Program) (f : FuncId) (args : List AV) : Option bc := (enter P f args false).map fun fr => { fr, callers := [], h := { next := 0, t := .nil } }
theorem tb {P : Program} {I : fu} [ig I] {f : FuncId} {args : List AV} {as_ : Array Value} {m0 : bc} {m : bc} {v : AV} (h0 : zd P f args = some m0) (h1 : bP P m0 m) (h2 : done P f m = some v)
  (w : World) (himm : ∀ B o v, I B o = some v -> w.cell? ⟨B, o, none⟩ = some v) (hargs : aL (fun _ => none) I args as_.toList) :
  Calls P f as_ w fun e w' => ∃ μ u, e = .returned u /\ aG μ I v u /\ Below w.heap.size w w' := by
 intro cs
 unfold zd at h0
 cases hfr : enter P f args false with
 | none => rw [hfr] at h0; cases h0
 | some fr =>
 rw [hfr] at h0
 simp only [Option.map_some, Option.some.injEq] at h0
 subst h0
 have hE := pK hfr hargs true 0 0 { next := 0, t := .nil }
 simp only [Bool.false_eq_true, if_false] at hE
 have r0 : oS P (fun _ => none) I w { fr, callers := [], h := { next := 0, t := .nil } } (Frame.enter P f as_ .normal) [] w := ⟨⟨0, Nat.le_refl _, hE, .nil⟩, tX w himm⟩
 obtain ⟨μ, c', cs', w', s, ⟨⟨lo, hlo, hF, hS⟩, hW⟩⟩ := h1 I w _ _ _ cs _ r0
 unfold done at h2
 split at h2
 case h_2 => cases h2
 case h_1 hc hm hd =>
 rw [hc] at hS
 cases hS
 obtain ⟨hq, h2⟩ := aJ h2
 simp only [Bool.and_eq_true, Bool.not_eq_true'] at hq
 have hfn := aq hq.1
 split at h2
 case h_2 => cases h2
 case h_1 fn hfn' =>
 have hex : ∃ vs, bq P m.h m.fr.tm fn.results.toList = some vs /\ packed vs = v := by
  cases hr : bq P m.h m.fr.tm fn.results.toList with
  | none => rw [hr] at h2; cases h2
  | some vs =>
   rw [hr] at h2
   refine ⟨vs, rfl, ?_⟩
   cases vs with
   | nil => simp at h2; exact h2
   | cons a b => cases b <;> (simp at h2; exact h2)
 obtain ⟨vs, hr, rfl⟩ := hex
 have hst := hF.st
 rw [hm] at hst
 cases hst with
 | ret z1 z2 =>
  obtain ⟨u, hu1, hu2⟩ := qk (P := P) hW z2 hr
  refine ⟨.returned u, w', c', ⟨μ, u, rfl, hu2, hW.below⟩, s, by rw [hF.fn, hfn], z1, ?_, by rw [hF.kind, hq.2]; rfl, fn, ?_, hu1⟩
  ·have := hF.defers; rw [hd] at this; generalize c'.defers = ds at this; cases this; rfl
  ·rw [hF.fn]; exact hfn'
def gI : List Nat -> Code -> Code
 | [], c => c
 | i :: l, c => match c with
  | .seq a b => match i with
   | 0 => gI l a
   | _ => gI l b
  | .cond _ a b => match i with
   | 0 => gI l a
   | _ => gI l b
  | .block _ a => gI l a
  | .loop a => gI l a
  | .scope a => gI l a
  | .rangeFunc _ _ a b => match i with
   | 0 => gI l a
   | _ => gI l b
  | c => c
noncomputable def vT (P : Program) (f : FuncId) (l : List Nat) : Code :=
 match P.funcs[f]? with
 | some fn => match fn.body with
  | some c => gI l c
  | none => .skip
 | none => .skip
noncomputable def zR (P : Program) (f : FuncId) (l : List Nat) : Array Oper :=
 match vT P f l with
 | .region _ ops _ => ops
 | _ => #[]
noncomputable def Dc (P : Program) (f : FuncId) (l : List Nat) : Array Tmp :=
 match vT P f l with
 | .rangeFunc _ ps _ _ => ps
 | _ => #[]
noncomputable def Da (P : Program) (f : FuncId) (l : List Nat) (i : Nat) : bu := .kP (zR P f l) i ((zR P f l).toList.drop i)
def bytesOf (l : List Nat) : ByteArray := ⟨⟨l.map UInt8.ofNat⟩⟩
end Go.a9
namespace Go.Sym
open Go Go.a9
theorem aD {a b : Int} : Cu a b = true ↔ a < b := by simp [Cu]
theorem ao {a b : Int} : Cv a b = true ↔ a <= b := by simp [Cv]
theorem aK {a b : Int} : AS a b = true ↔ a = b := by simp [AS]
theorem aC {a b : Int} : Cu a b = false ↔ b <= a := by simp [Cu]
theorem aE {a b : Int} : Cv a b = false ↔ b < a := by simp [Cv]
theorem aI {a b : Int} : AS a b = false ↔ ¬ a = b := by simp [AS]
section
variable (ρ : Env)
theorem add'_i (a b : E) : (a.add' b).i ρ = a.i ρ + b.i ρ := by
 unfold E.add'; split <;> simp [E.i]
theorem sub'_i (a b : E) : (a.sub' b).i ρ = a.i ρ - b.i ρ := by
 unfold E.sub'; split <;> simp [E.i]
theorem mul'_i (a b : E) : (a.mul' b).i ρ = a.i ρ * b.i ρ := by
 unfold E.mul'; split <;> simp [E.i]
theorem lt'_b (a b : E) : (a.lt' b).b ρ = Cu (a.i ρ) (b.i ρ) := by
 unfold E.lt'; split <;> rfl
theorem le'_b (a b : E) : (a.le' b).b ρ = Cv (a.i ρ) (b.i ρ) := by
 unfold E.le'; split <;> rfl
theorem eq'_b (a b : E) : (a.eq' b).b ρ = AS (a.i ρ) (b.i ρ) := by
 unfold E.eq'; split <;> rfl
theorem not'_b (a : E) : a.not'.b ρ = !a.b ρ := by
 unfold E.not'; split <;> simp [E.b]
theorem and'_b (a b : E) : (a.and' b).b ρ = (a.b ρ && b.b ρ) := by
 unfold E.and'; split
 ·simp [E.b]
 ·simp [E.b]
 ·split <;> simp [E.b]
theorem rX (x y : V) : (x.snoc y).bx = x.bx ++ [y] := rfl
theorem len'_i (x : E) : x.len'.i ρ = (x.v ρ).len := by
 induction x <;> simp_all [E.len', E.i, E.v, V.len, V.bx, V.snoc, V.set, add'_i]
theorem toI'_i (x : E) : x.toI'.i ρ = (x.v ρ).ab := by
 unfold E.toI'; split <;> simp [E.i, E.v, V.ab]
theorem toB'_b (x : E) : x.toB'.b ρ = (x.v ρ).eI := by
 unfold E.toB'; split <;> simp [E.b, E.v, V.eI]
theorem Du : ∀ (x : E) (n : Nat), E.size x = some n -> (x.v ρ).bx.length = n := by
 intro x
 induction x with
 | nil => intro n h; simp [E.size] at h; subst h; rfl
 | emp => intro n h; simp [E.size] at h; subst h; rfl
 | snoc x y ihx ihy =>
  intro n h
  simp [E.size] at h
  obtain ⟨m, hm, rfl⟩ := h
  simp [E.v, rX, ihx m hm]
 | _ => intro n h; simp [E.size] at h
theorem DJ : ∀ (x : E) (n m : Nat) (y : E), E.size x = some m -> E.back x n = some y -> n < m /\ (x.v ρ).bx[m - 1 - n]? = some (y.v ρ) := by
 intro x
 induction x with
 | snoc x z ihx ihz =>
  intro n m y h g
  simp [E.size] at h
  obtain ⟨k, hk, rfl⟩ := h
  have hl := Du ρ x k hk
  cases n with
  | zero =>
   simp [E.back] at g
   subst g
   refine ⟨by omega, ?_⟩
   simp [E.v, rX, hl]
  | succ n =>
   simp [E.back] at g
   obtain ⟨h1, h2⟩ := ihx n k y hk g
   refine ⟨by omega, ?_⟩
   rw [show k + 1 - 1 - (n + 1) = k - 1 - n from by omega]
   simp only [E.v, rX]
   rw [List.getElem?_append_left (by omega)]
   exact h2
 | _ => intro n m y h g; simp [E.back] at g
theorem get'_v (x i : E) : (x.get' i).v ρ = (x.v ρ).get (i.i ρ) := by
 unfold E.get'
 split
 ·rename_i n
  split
  ·rename_i m hm
   by_cases hlt : Nat.blt n m = true
   ·rw [hlt]
    cases hb : E.back x (m - 1 - n) with
    | none => simp [E.v]
    | some y =>
     obtain ⟨h1, h2⟩ := DJ ρ x _ m y hm hb
     have hlt' : n < m := by simpa [Nat.blt_eq] using hlt
     rw [show m - 1 - (m - 1 - n) = n from by omega] at h2
     simp [V.get, E.i, h2]
   ·have : Nat.blt n m = false := by cases h : Nat.blt n m <;> simp_all
    rw [this]; simp [E.v]
  ·simp [E.v]
 ·simp [E.v]
end
theorem getD_map' {α β : Type} (f : α -> β) (l : List α) (n : Nat) (d : α) (e : β) (h : n < l.length) : (l.map f).getD n e = f (l.getD n d) := by
 simp [List.getD_eq_getElem?_getD, h]
theorem BJ (σ : Sub) (ρ : Env) : ∀ (e : E), (e.cl σ.i.length σ.b.length σ.v.length .i = true -> (e.inst σ).i ρ = e.i (σ.ev ρ)) /\ (e.cl σ.i.length σ.b.length σ.v.length .b = true -> (e.inst σ).b ρ = e.b (σ.ev ρ)) /\ (e.cl σ.i.length σ.b.length σ.v.length .v = true -> (e.inst σ).v ρ = e.v (σ.ev ρ)) := by
 intro e
 induction e with
 | iv n => exact ⟨fun c => by simp only [E.cl, decide_eq_true_eq] at c; simp only [E.inst, E.i, Sub.ev]; rw [getD_map' _ _ _ (.il 0) _ c], fun c => by simp [E.cl] at c, fun c => by simp [E.cl] at c⟩
 | bv n => exact ⟨fun c => by simp [E.cl] at c, fun c => by simp only [E.cl, decide_eq_true_eq] at c; simp only [E.inst, E.b, Sub.ev]; rw [getD_map' _ _ _ (.bl false) _ c], fun c => by simp [E.cl] at c⟩
 | vv n => exact ⟨fun c => by simp [E.cl] at c, fun c => by simp [E.cl] at c, fun c => by simp only [E.cl, decide_eq_true_eq] at c; simp only [E.inst, E.v, Sub.ev]; rw [getD_map' _ _ _ .nil _ c]⟩
 | _ => simp_all [E.cl, E.inst, E.i, E.b, E.v]
def Env.le (ρ ρ' : Env) : Prop := ρ'.i = ρ.i /\ ρ'.b = ρ.b /\ ∃ l, ρ'.v = ρ.v ++ l
theorem DI {ρ ρ' : Env} (h : ρ.le ρ') : ∀ (e : E), (e.cl ρ.i.length ρ.b.length ρ.v.length .i = true -> e.i ρ' = e.i ρ) /\ (e.cl ρ.i.length ρ.b.length ρ.v.length .b = true -> e.b ρ' = e.b ρ) /\ (e.cl ρ.i.length ρ.b.length ρ.v.length .v = true -> e.v ρ' = e.v ρ) := by
 obtain ⟨hi, hb, l, hv⟩ := h
 intro e
 induction e with
 | iv n => exact ⟨fun _ => by simp [E.i, hi], fun c => by simp [E.cl] at c, fun c => by simp [E.cl] at c⟩
 | bv n => exact ⟨fun c => by simp [E.cl] at c, fun _ => by simp [E.b, hb], fun c => by simp [E.cl] at c⟩
 | vv n =>
  refine ⟨fun c => by simp [E.cl] at c, fun c => by simp [E.cl] at c, fun c => ?_⟩
  simp only [E.cl, decide_eq_true_eq] at c
  simp only [E.v, hv]
  simp [List.getD_eq_getElem?_getD, List.getElem?_append_left c]
 | _ => simp_all [E.cl, E.i, E.b, E.v]
theorem vJ {σ : Sub} {ρ ρ' : Env} (h : (σ.ev ρ).le ρ') (e : E) : (e.cl σ.i.length σ.b.length σ.v.length .i = true -> e.i ρ' = (e.inst σ).i ρ) /\ (e.cl σ.i.length σ.b.length σ.v.length .b = true -> e.b ρ' = (e.inst σ).b ρ) /\ (e.cl σ.i.length σ.b.length σ.v.length .v = true -> e.v ρ' = (e.inst σ).v ρ) := by
 have h1 := BJ σ ρ e
 have h2 := DI h e
 have li : (σ.ev ρ).i.length = σ.i.length := by simp [Sub.ev]
 have lb : (σ.ev ρ).b.length = σ.b.length := by simp [Sub.ev]
 have lv : (σ.ev ρ).v.length = σ.v.length := by simp [Sub.ev]
 rw [li, lb, lv] at h2
 exact ⟨fun c => (h2.1 c).trans (h1.1 c).symm, fun c => (h2.2.1 c).trans (h1.2.1 c).symm, fun c => (h2.2.2 c).trans (h1.2.2 c).symm⟩
end Go.Sym
namespace Go.Sym
open Go Go.a9
def bQ (sz : Nat) (R : V -> List AV -> Prop) : List V -> List AV -> Prop
 | [], cs => cs = []
 | x :: xs, cs => ∃ c r, cs = c ++ r /\ c.length = sz /\ R x c /\ bQ sz R xs r
def pZ (P : Program) (R : TypeId -> V -> List AV -> Prop) : List Field -> Nat -> List V -> List AV -> Prop
 | [], _, xs, cs => xs = [] /\ cs = []
 | f :: fs, pos, xs, cs => ∃ x ys c r, xs = x :: ys /\ cs = c ++ r /\ f.offset = pos /\ R f.type x c /\ pZ P R fs (pos + c.length) ys r
def Cn (h : ah) (S : Nat -> Prop) (sz : Nat) (R : V -> List AV -> Prop) (x : V) (av : AV) : Prop :=
 (x = .nil /\ av = .aV) \/ ∃ l, x = .list l /\
  ((∃ b off cs, av = .slice b off l.length sz /\ S b /\ h.get b = some (.cells cs) /\ off + l.length * sz <= cs.length /\ bQ sz R l ((cs.drop off).take (l.length * sz))) \/
   (∃ cs l', av = .bY cs l.length sz /\ bQ sz R (l ++ l') cs))
def PV (P : Program) (h : ah) (S : Nat -> Prop) : Nat -> TypeId -> V -> List AV -> Prop
 | 0, _, _, _ => False
 | d + 1, t, x, cs => aA P t = some cs.length /\ match P.underlying t with
  | some (.int k) => ∃ n, x = .int n /\ cs = [.int k n]
  | some .bool => ∃ b, x = .bool b /\ cs = [.bool b]
  | some .string => ∃ s, x = .str s /\ cs = [.str s]
  | some (.slice et) => ∃ av sz, cs = [av] /\ aA P et = some sz /\ 0 < sz /\ Cn h S sz (PV P h S d et) x av
  | some (.struct fields) => ∃ xs, x = .list xs /\ pZ P (PV P h S d) fields.toList 0 xs cs
  | some (.array n et) => ∃ xs sz, x = .list xs /\ xs.length = n /\ aA P et = some sz /\ bQ sz (PV P h S d et) xs cs
  | _ => False
section
variable {P : Program} {h h' : ah} {S S' : Nat -> Prop}
theorem bQ.imp {sz : Nat} {R R' : V -> List AV -> Prop} (hr : ∀ x c, R x c -> R' x c) : ∀ {l : List V} {cs : List AV}, bQ sz R l cs -> bQ sz R' l cs
 | [], _, e => e
 | _ :: _, _, ⟨c, r, e, z, a, b⟩ => ⟨c, r, e, z, hr _ _ a, bQ.imp hr b⟩
theorem bQ.length {sz : Nat} {R : V -> List AV -> Prop} : ∀ {l : List V} {cs : List AV}, bQ sz R l cs -> cs.length = l.length * sz
 | [], _, e => by cases e; simp
 | x :: xs, _, ⟨c, r, e, z, a, b⟩ => by subst e; simp [bQ.length b, z, Nat.succ_mul]; omega
theorem bQ.append {sz : Nat} {R : V -> List AV -> Prop} : ∀ {l m : List V} {cs ds : List AV}, bQ sz R l cs -> bQ sz R m ds -> bQ sz R (l ++ m) (cs ++ ds)
 | [], _, _, _, e, g => by cases e; exact g
 | x :: xs, _, _, _, ⟨c, r, e, z, a, b⟩, g => ⟨c, r ++ _, by rw [e, List.append_assoc], z, a, bQ.append b g⟩
theorem bQ.get {sz : Nat} {R : V -> List AV -> Prop} : ∀ {l : List V} {cs : List AV}, bQ sz R l cs -> ∀ i x, l[i]? = some x -> ∃ c r, cs.drop (i * sz) = c ++ r /\ c.length = sz /\ R x c
 | [], _, _, i, x, e => by simp at e
 | y :: ys, _, ⟨c, r, e, z, a, b⟩, 0, x, g => by simp at g; subst g; exact ⟨c, r, by simpa using e, z, a⟩
 | y :: ys, _, ⟨c, r, e, z, a, b⟩, i + 1, x, g => by
  obtain ⟨c', r', e1, z1, a1⟩ := bQ.get b i x (by simpa using g)
  refine ⟨c', r', ?_, z1, a1⟩
  rw [e, Nat.succ_mul, Nat.add_comm, <- z, <- List.drop_drop, List.drop_left' rfl, z]
  exact e1
theorem bQ.take {sz : Nat} {R : V -> List AV -> Prop} : ∀ {l : List V} {cs : List AV}, bQ sz R l cs -> ∀ n, bQ sz R (l.take n) (cs.take (n * sz))
 | [], _, e, n => by cases e; simp [bQ]
 | x :: xs, _, ⟨c, r, e, z, a, b⟩, 0 => by simp [bQ]
 | x :: xs, _, ⟨c, r, e, z, a, b⟩, n + 1 => by
  refine ⟨c, r.take (n * sz), ?_, z, a, bQ.take b n⟩
  rw [e, List.take_append, z, List.take_of_length_le (by rw [z, Nat.succ_mul]; omega), Nat.succ_mul, Nat.add_sub_cancel]
theorem bQ.drop {sz : Nat} {R : V -> List AV -> Prop} : ∀ {l : List V} {cs : List AV}, bQ sz R l cs -> ∀ n, bQ sz R (l.drop n) (cs.drop (n * sz))
 | l, cs, g, 0 => by simpa using g
 | [], _, e, n + 1 => by cases e; simp [bQ]
 | x :: xs, _, ⟨c, r, e, z, a, b⟩, n + 1 => by
  have := bQ.drop b n
  have e2 : List.drop ((n + 1) * sz) (c ++ r) = List.drop (n * sz) r := by
   rw [Nat.succ_mul, Nat.add_comm, <- z, <- List.drop_drop, List.drop_left' rfl]
  rw [e, e2]
  exact this
theorem bQ.set {sz : Nat} {R : V -> List AV -> Prop} {x : V} {c : List AV} (hc : c.length = sz) (hx : R x c) : ∀ {l : List V} {cs : List AV}, bQ sz R l cs -> ∀ i, i < l.length -> bQ sz R (l.set i x) (aB cs (i * sz) c)
 | [], _, e, i, hi => by simp at hi
 | y :: ys, _, ⟨d, r, e, z, a, b⟩, 0, hi => by
  refine ⟨c, r, ?_, hc, hx, b⟩
  simp [aB, e, hc, <- z]
 | y :: ys, _, ⟨d, r, e, z, a, b⟩, i + 1, hi => by
  refine ⟨d, aB r (i * sz) c, ?_, z, a, bQ.set hc hx b i (by simpa using hi)⟩
  unfold aB
  rw [e, Nat.succ_mul, Nat.add_comm (i * sz) sz]
  rw [List.take_append, List.take_of_length_le (by omega), z, Nat.add_sub_cancel_left]
  rw [show sz + i * sz + c.length = d.length + (i * sz + c.length) from by omega, <- List.drop_drop, List.drop_left' rfl]
  simp
theorem bQ.replicate {sz : Nat} {R : V -> List AV -> Prop} {x : V} {c : List AV} (hc : c.length = sz) (hx : R x c) : ∀ n, bQ sz R (List.replicate n x) (dE c n)
 | 0 => rfl
 | n + 1 => ⟨c, _, rfl, hc, hx, bQ.replicate hc hx n⟩
theorem pZ.imp {R R' : TypeId -> V -> List AV -> Prop} (hr : ∀ t x c, R t x c -> R' t x c) : ∀ {fs : List Field} {pos : Nat} {xs : List V} {cs : List AV}, pZ P R fs pos xs cs -> pZ P R' fs pos xs cs
 | [], _, _, _, e => e
 | _ :: _, _, _, _, ⟨x, ys, c, r, e, e', o, a, b⟩ => ⟨x, ys, c, r, e, e', o, hr _ _ _ a, pZ.imp hr b⟩
theorem Cn.imp {sz : Nat} {R R' : V -> List AV -> Prop} (hr : ∀ x c, R x c -> R' x c) (hs : ∀ b, S b -> S' b /\ ∀ o, h.get b = some o -> h'.get b = some o) {x : V} {av : AV} (g : Cn h S sz R x av) : Cn h' S' sz R' x av := by
 rcases g with ⟨rfl, rfl⟩ | ⟨l, rfl, ⟨b, off, cs, rfl, hb, hg, hl, hp⟩ | ⟨cs, l', rfl, hp⟩⟩
 ·exact .inl ⟨rfl, rfl⟩
 ·exact .inr ⟨l, rfl, .inl ⟨b, off, cs, rfl, (hs b hb).1, (hs b hb).2 _ hg, hl, hp.imp hr⟩⟩
 ·exact .inr ⟨l, rfl, .inr ⟨cs, l', rfl, hp.imp hr⟩⟩
def Kept (h : ah) (S : Nat -> Prop) (h' : ah) (S' : Nat -> Prop) : Prop := ∀ b, S b -> S' b /\ ∀ o, h.get b = some o -> h'.get b = some o
theorem PV.mono (hs : Kept h S h' S') : ∀ {d : Nat} {t : TypeId} {x : V} {cs : List AV}, PV P h S d t x cs -> PV P h' S' d t x cs
 | 0, _, _, _, g => g
 | d + 1, t, x, cs, g => by
  obtain ⟨g0, g⟩ := g
  refine ⟨g0, ?_⟩
  split at g
  ·exact g
  ·exact g
  ·exact g
  ·obtain ⟨av, sz, a, b, c, e⟩ := g
   exact ⟨av, sz, a, b, c, e.imp (fun _ _ => PV.mono hs) hs⟩
  ·obtain ⟨xs, a, b⟩ := g
   exact ⟨xs, a, b.imp fun _ _ _ => PV.mono hs⟩
  ·obtain ⟨xs, sz, a, b, c, e⟩ := g
   exact ⟨xs, sz, a, b, c, e.imp fun _ _ => PV.mono hs⟩
  ·exact g
theorem PV.more : ∀ {d : Nat} {t : TypeId} {x : V} {cs : List AV}, PV P h S d t x cs -> PV P h S (d + 1) t x cs
 | 0, _, _, _, g => g.elim
 | d + 1, t, x, cs, g => by
  obtain ⟨g0, g⟩ := g
  refine ⟨g0, ?_⟩
  split at g
  ·exact g
  ·exact g
  ·exact g
  ·obtain ⟨av, sz, a, b, c, e⟩ := g
   exact ⟨av, sz, a, b, c, e.imp (fun _ _ => PV.more) fun b hb => ⟨hb, fun _ e => e⟩⟩
  ·obtain ⟨xs, a, b⟩ := g
   exact ⟨xs, a, b.imp fun _ _ _ => PV.more⟩
  ·obtain ⟨xs, sz, a, b, c, e⟩ := g
   exact ⟨xs, sz, a, b, c, e.imp fun _ _ => PV.more⟩
  ·exact g
theorem PV.le {d d' : Nat} (hd : d <= d') {t : TypeId} {x : V} {cs : List AV} (g : PV P h S d t x cs) : PV P h S d' t x cs := by
 induction hd with
 | refl => exact g
 | step _ ih => exact ih.more
theorem PV.length {d : Nat} {t : TypeId} {x : V} {cs : List AV} (g : PV P h S d t x cs) : aA P t = some cs.length := by
 cases d with
 | zero => exact g.elim
 | succ d => exact g.1
theorem bQ.all {sz : Nat} {R : V -> List AV -> Prop} {Q : AV -> Prop} (hr : ∀ x c, R x c -> ∀ a ∈ c, Q a) : ∀ {l : List V} {cs : List AV}, bQ sz R l cs -> ∀ a ∈ cs, Q a
 | [], _, e => by cases e; simp
 | _ :: _, _, ⟨c, r, e, z, a, b⟩ => by
  intro v hv
  rw [e, List.mem_append] at hv
  rcases hv with hv | hv
  ·exact hr _ _ a v hv
  ·exact bQ.all hr b v hv
theorem pZ.all {R : TypeId -> V -> List AV -> Prop} {Q : AV -> Prop} (hr : ∀ t x c, R t x c -> ∀ a ∈ c, Q a) : ∀ {fs : List Field} {pos : Nat} {xs : List V} {cs : List AV}, pZ P R fs pos xs cs -> ∀ a ∈ cs, Q a
 | [], _, _, _, e => by obtain ⟨_, e⟩ := e; cases e; simp
 | _ :: _, _, _, _, ⟨x, ys, c, r, e, e', o, a, b⟩ => by
  intro v hv
  rw [e', List.mem_append] at hv
  rcases hv with hv | hv
  ·exact hr _ _ _ a v hv
  ·exact pZ.all hr b v hv
theorem PV.cell : ∀ {d : Nat} {t : TypeId} {x : V} {cs : List AV}, PV P h S d t x cs -> ∀ a ∈ cs, a.one = true
 | 0, _, _, _, g => g.elim
 | d + 1, t, x, cs, g => by
  obtain ⟨g0, g⟩ := g
  split at g
  ·obtain ⟨n, _, rfl⟩ := g; simp [AV.one]
  ·obtain ⟨n, _, rfl⟩ := g; simp [AV.one]
  ·obtain ⟨n, _, rfl⟩ := g; simp [AV.one]
  ·obtain ⟨av, sz, rfl, _, _, e⟩ := g
   rcases e with ⟨_, rfl⟩ | ⟨l, _, ⟨b, off, cs, rfl, _⟩ | ⟨cs, l', rfl, _⟩⟩ <;> simp [AV.one]
  ·obtain ⟨xs, _, b⟩ := g
   exact b.all fun _ _ _ => PV.cell
  ·obtain ⟨xs, sz, _, _, _, e⟩ := g
   exact e.all fun _ _ => PV.cell
  ·exact g.elim
theorem pR {f : AV -> AV -> Bool} : ∀ {l : List AV}, (∀ a ∈ l, f a a = true) -> cO f l l = true
 | [], _ => rfl
 | a :: l, h => by simp only [cO, Bool.and_eq_true]; exact ⟨h a (by simp), pR fun b hb => h b (by simp [hb])⟩
theorem PV.beq : ∀ {d : Nat} {t : TypeId} {x : V} {cs : List AV}, PV P h S d t x cs -> ∀ a ∈ cs, ∀ m, d <= m -> AV.beq m a a = true
 | 0, _, _, _, g => g.elim
 | d + 1, t, x, cs, g => by
  obtain ⟨g0, g⟩ := g
  have one : ∀ a, (a = .aV \/ (∃ b, a = .bool b) \/ (∃ k n, a = .int k n) \/ (∃ s, a = .str s) \/ (∃ b o l s, a = .slice b o l s)) -> ∀ m, d + 1 <= m -> AV.beq m a a = true := by
   intro a ha m hm
   obtain ⟨m, rfl⟩ : ∃ k, m = k + 1 := ⟨m - 1, by omega⟩
   rcases ha with rfl | ⟨b, rfl⟩ | ⟨k, n, rfl⟩ | ⟨s, rfl⟩ | ⟨b, o, l, s, rfl⟩ <;> simp [AV.beq]
  split at g
  ·obtain ⟨n, _, rfl⟩ := g; intro a ha; simp at ha; subst ha; exact one _ (by simp)
  ·obtain ⟨n, _, rfl⟩ := g; intro a ha; simp at ha; subst ha; exact one _ (by simp)
  ·obtain ⟨n, _, rfl⟩ := g; intro a ha; simp at ha; subst ha; exact one _ (by simp)
  ·obtain ⟨av, sz, rfl, _, _, e⟩ := g
   intro a ha; simp at ha; subst ha
   rcases e with ⟨_, rfl⟩ | ⟨l, _, ⟨b, off, cs, rfl, _⟩ | ⟨cs, l', rfl, hp⟩⟩
   ·exact one _ (by simp)
   ·exact one _ (by simp)
   ·intro m hm
    obtain ⟨m, rfl⟩ : ∃ k, m = k + 1 := ⟨m - 1, by omega⟩
    have := pR (hp.all (Q := fun a => AV.beq m a a = true) fun x c hx a ha => PV.beq hx a ha m (by omega))
    simp [AV.beq, this]
  ·obtain ⟨xs, _, b⟩ := g
   intro a ha m hm
   exact b.all (Q := fun a => AV.beq m a a = true) (fun t x c hx a ha => PV.beq hx a ha m (by omega)) a ha
  ·obtain ⟨xs, sz, _, _, _, e⟩ := g
   intro a ha m hm
   exact e.all (Q := fun a => AV.beq m a a = true) (fun x c hx a ha => PV.beq hx a ha m (by omega)) a ha
  ·exact g.elim
theorem Cn.beq {d sz : Nat} {et : TypeId} {x : V} {av : AV} (g : Cn h S sz (PV P h S d et) x av) : ∀ m, d + 1 <= m -> AV.beq m av av = true := by
 intro m hm
 obtain ⟨m, rfl⟩ : ∃ k, m = k + 1 := ⟨m - 1, by omega⟩
 rcases g with ⟨_, rfl⟩ | ⟨l, _, ⟨b, off, cs, rfl, _⟩ | ⟨cs, l', rfl, hp⟩⟩
 ·simp [AV.beq]
 ·simp [AV.beq]
 ·have := pR (hp.all (Q := fun a => AV.beq m a a = true) fun x c hx a ha => PV.beq hx a ha m (by omega))
  simp [AV.beq, this]
end
end Go.Sym
namespace Go.Sym
open Go Go.a9
inductive Loc where
 | nil
 | cells (a : Nat)
 | nN (a len sz : Nat)
 | obj (a : Nat)
def Loc.at : Loc -> Option Nat
 | .nil => none
 | .cells a | .nN a _ _ | .obj a => some a
structure Hid where
 ν : Nat -> Option Loc
 κ : Nat -> List AV
 κb : Nat -> Nat -> List AV
 S : Nat -> Prop
 fp : Nat -> List Nat
section
open Classical
noncomputable def nK (h : ah) (S : Nat -> Prop) (s : AV) (k : Nat) : Option AV :=
 match s with
 | .slice b off _ _ => if S b then (match h.get b with
  | some (.cells cs) => cs[off + k]?
  | _ => none) else none
 | .bY cs _ _ => cs[k]?
 | _ => none
def js (s : AV) (k : Nat) : Option AV :=
 match s with
 | .slice b off _ _ => some (.ptr b (off + k))
 | .bY cs _ _ => some (.fT (cs.drop k))
 | _ => none
def zG (s : AV) (i j : Nat) : Option AV :=
 match s with
 | .aV => some .aV
 | .slice b off _ z => some (.slice b (off + i * z) (j - i) z)
 | .bY cs _ z => some (.bY (cs.drop (i * z)) (j - i) z)
 | _ => none
noncomputable def nY (h : ah) (S : Nat -> Prop) (a : AV) : Option (List AV) :=
 match a with
 | .ptr b off => if S b then a9.rowAt h (AV.ptr b off) else none
 | .fT cs => some cs
 | _ => none
noncomputable def fq (h : ah) (H : Hid) (ρ : Env) : PA -> Option AV
 | .nil => some .aV
 | .cell n j => (H.κ n)[j]?
 | .el p i sz off => (fq h H ρ p).bind fun s => nK h H.S s ((i.i ρ).toNat * sz + off)
 | .D8 b v i sz off => (H.κb b v)[(i.i ρ).toNat * sz + off]?
 | .sub p i j sz => (fq h H ρ p).bind fun s => zG s (i.i ρ).toNat (j.i ρ).toNat
end
mutual
inductive SD (P : Program) (h : ah) (H : Hid) (ρ : Env) : SV -> AV -> Prop
 | bad (v : AV) : SD P h H ρ .bad v
 | bool (e : E) : SD P h H ρ (.bool e) (.bool (e.b ρ))
 | int (k : IntKind) (e : E) : SD P h H ρ (.int k e) (.int k (e.i ρ))
 | str {e : E} {s : ByteArray} : e.v ρ = .str s -> SD P h H ρ (.str e) (.str s)
 | fe : SD P h H ρ .fe .fe
 | addr {b off a : Nat} : H.ν b = some (.cells a) -> SD P h H ρ (.addr b off) (.ptr a off)
 | bI {b off a len sz : Nat} {i : E} : H.ν b = some (.nN a len sz) -> SD P h H ρ (.bI b i off) (.ptr a ((i.i ρ).toNat * sz + off))
 | ld {t : TypeId} {e : E} {p : PA} {i : E} {sz off : Nat} {s av : AV} {c r : List AV} : fq h H ρ p = some s -> js s ((i.i ρ).toNat * sz + off) = some av -> nY h H.S av = some (c ++ r) -> PV P h H.S deep t (e.v ρ) c -> SD P h H ρ (.ld t e p i sz off) av
 | aV : SD P h H ρ .aV .aV
 | cu {b : Nat} : H.ν b = some .nil -> SD P h H ρ (.view b) .aV
 | view {b a len sz : Nat} : H.ν b = some (.nN a len sz) -> SD P h H ρ (.view b) (.slice a 0 len sz)
 | pure {t : TypeId} {e : E} {p : PA} {av : AV} {sz : Nat} : fq h H ρ p = some av -> aA P t = some sz -> 0 < sz -> Cn h H.S sz (PV P h H.S deep t) (e.v ρ) av -> SD P h H ρ (.pure t e p) av
 | fK : SD P h H ρ .fK .fK
 | fB : SD P h H ρ .fB .fB
 | func {f : FuncId} {x y : List SV} {u v : List AV} : cB P h H ρ x u -> cB P h H ρ y v -> SD P h H ρ (.func f x y) (.func f u v)
 | aF {l a : Nat} : H.ν l = some (.obj a) -> SD P h H ρ (.aF l) (.aF a)
 | gp {x : List SV} {u : List AV} : cB P h H ρ x u -> SD P h H ρ (.gp x) (.fT u)
 | cW : SD P h H ρ .cW .cW
 | iface {t : TypeId} {x : SV} {u : AV} : SD P h H ρ x u -> SD P h H ρ (.iface t x) (.iface t u)
 | agg {x : List SV} {u : List AV} : cB P h H ρ x u -> SD P h H ρ (.agg x) (.agg u)
 | tuple {x : List SV} {u : List AV} : cB P h H ρ x u -> SD P h H ρ (.tuple x) (.tuple u)
inductive cB (P : Program) (h : ah) (H : Hid) (ρ : Env) : List SV -> List AV -> Prop
 | nil : cB P h H ρ [] []
 | cons {x : SV} {u : AV} {xs : List SV} {us : List AV} : SD P h H ρ x u -> cB P h H ρ xs us -> cB P h H ρ (x :: xs) (u :: us)
end
structure aM (h : ah) (H : Hid) (h' : ah) (H' : Hid) : Prop where
 nu : ∀ b l, H.ν b = some l -> H'.ν b = some l
 ka : ∀ (n j : Nat) av, (H.κ n)[j]? = some av -> (H'.κ n)[j]? = some av
 kb : ∀ (b v j : Nat) av, (H.κb b v)[j]? = some av -> (H'.κb b v)[j]? = some av
 kept : Kept h H.S h' H'.S
section
variable {P : Program} {h h' : ah} {H H' : Hid} {ρ : Env}
theorem aM.refl (h : ah) (H : Hid) : aM h H h H := ⟨fun _ _ e => e, fun _ _ _ e => e, fun _ _ _ _ e => e, fun b hb => ⟨hb, fun _ e => e⟩⟩
theorem aM.trans {h'' : ah} {H'' : Hid} (x : aM h H h' H') (y : aM h' H' h'' H'') : aM h H h'' H'' :=
 ⟨fun _ _ e => y.nu _ _ (x.nu _ _ e), fun _ _ _ e => y.ka _ _ _ (x.ka _ _ _ e), fun _ _ _ _ e => y.kb _ _ _ _ (x.kb _ _ _ _ e), fun b hb => ⟨(y.kept b (x.kept b hb).1).1, fun _ e => (y.kept b (x.kept b hb).1).2 _ ((x.kept b hb).2 _ e)⟩⟩
theorem xI (hk : Kept h H.S h' H'.S) {s : AV} {k : Nat} {av : AV} (e : nK h H.S s k = some av) : nK h' H'.S s k = some av := by
 unfold nK at e ⊢
 split at e
 ·split at e
  ·rename_i hS
   rw [if_pos (hk _ hS).1]
   split at e
   ·rename_i hg
    rw [(hk _ hS).2 _ hg]; exact e
   ·cases e
  ·cases e
 ·exact e
 ·cases e
theorem Ar (hk : Kept h H.S h' H'.S) {a : AV} {cs : List AV} (e : nY h H.S a = some cs) : nY h' H'.S a = some cs := by
 unfold nY at e ⊢
 split at e
 ·split at e
  ·rename_i hS
   rw [if_pos (hk _ hS).1]
   unfold a9.rowAt at e ⊢
   simp only at e ⊢
   split at e
   ·rename_i hg
    rw [(hk _ hS).2 _ hg]; exact e
   ·cases e
  ·cases e
 ·exact e
 ·cases e
theorem Bq {S : Nat -> Prop} {a : AV} {cs : List AV} (e : nY h S a = some cs) : a9.rowAt h a = some cs := by
 unfold nY at e
 split at e
 ·split at e
  ·exact e
  ·cases e
 ·exact e
 ·cases e
theorem mG (x : aM h H h' H') : ∀ {p : PA} {av : AV}, fq h H ρ p = some av -> fq h' H' ρ p = some av
 | .nil, _, e => e
 | .cell n j, _, e => x.ka _ _ _ e
 | .el p i sz off, av, e => by
  simp only [fq, Option.bind_eq_some_iff] at e ⊢
  obtain ⟨s, e1, e2⟩ := e
  exact ⟨s, mG x e1, xI x.kept e2⟩
 | .D8 b v i sz off, _, e => x.kb _ _ _ _ e
 | .sub p i j sz, av, e => by
  simp only [fq, Option.bind_eq_some_iff] at e ⊢
  obtain ⟨s, e1, e2⟩ := e
  exact ⟨s, mG x e1, e2⟩
mutual
theorem SD.mono (x : aM h H h' H') : ∀ {s : SV} {a : AV}, SD P h H ρ s a -> SD P h' H' ρ s a
 | _, _, .bad v => .bad v
 | _, _, .bool e => .bool e
 | _, _, .int k e => .int k e
 | _, _, .str e => .str e
 | _, _, .fe => .fe
 | _, _, .addr e => .addr (x.nu _ _ e)
 | _, _, .bI e => .bI (x.nu _ _ e)
 | _, _, .ld a b c d => .ld (mG x a) b (Ar x.kept c) (d.mono x.kept)
 | _, _, .aV => .aV
 | _, _, .cu e => .cu (x.nu _ _ e)
 | _, _, .view e => .view (x.nu _ _ e)
 | _, _, .pure a b c d => .pure (mG x a) b c (d.imp (fun _ _ g => g.mono x.kept) x.kept)
 | _, _, .fK => .fK
 | _, _, .fB => .fB
 | _, _, .func a b => .func (cB.mono x a) (cB.mono x b)
 | _, _, .aF e => .aF (x.nu _ _ e)
 | _, _, .cW => .cW
 | _, _, .iface a => .iface (SD.mono x a)
 | _, _, .agg a => .agg (cB.mono x a)
 | _, _, .gp a => .gp (cB.mono x a)
 | _, _, .tuple a => .tuple (cB.mono x a)
theorem cB.mono (x : aM h H h' H') : ∀ {s : List SV} {a : List AV}, cB P h H ρ s a -> cB P h' H' ρ s a
 | _, _, .nil => .nil
 | _, _, .cons a b => .cons (SD.mono x a) (cB.mono x b)
end
theorem cB.length {x : List SV} {u : List AV} (g : cB P h H ρ x u) : x.length = u.length := by
 induction x generalizing u with
 | nil => cases g; rfl
 | cons a xs ih => cases g with | cons _ g => simp [ih g]
theorem cB.append {x y : List SV} {u v : List AV} (g : cB P h H ρ x u) (k : cB P h H ρ y v) : cB P h H ρ (x ++ y) (u ++ v) := by
 induction x generalizing u with
 | nil => cases g; exact k
 | cons a xs ih => cases g with | cons g1 g2 => exact .cons g1 (ih g2)
theorem cB.take {x : List SV} {u : List AV} (g : cB P h H ρ x u) (n : Nat) : cB P h H ρ (x.take n) (u.take n) := by
 induction n generalizing x u with
 | zero => exact .nil
 | succ n ih => cases g with
  | nil => exact .nil
  | cons a b => exact .cons a (ih b)
theorem cB.drop {x : List SV} {u : List AV} (g : cB P h H ρ x u) (n : Nat) : cB P h H ρ (x.drop n) (u.drop n) := by
 induction n generalizing x u with
 | zero => exact g
 | succ n ih => cases g with
  | nil => exact .nil
  | cons a b => exact ih b
theorem cB.get {x : List SV} {u : List AV} (g : cB P h H ρ x u) : ∀ {i : Nat} {a : SV}, x[i]? = some a -> ∃ v, u[i]? = some v /\ SD P h H ρ a v := by
 induction x generalizing u with
 | nil => intro i a e; simp at e
 | cons y xs ih =>
  intro i a e
  cases g with
  | cons h1 h2 =>
   cases i with
   | zero => simp at e; subst e; exact ⟨_, rfl, h1⟩
   | succ i => simp at e; obtain ⟨v, hv, hr⟩ := ih h2 e; exact ⟨v, by simpa using hv, hr⟩
theorem cB.map {α : Type} {f : α -> SV} {g : α -> AV} : ∀ {l : List α}, (∀ x ∈ l, SD P h H ρ (f x) (g x)) -> cB P h H ρ (l.map f) (l.map g)
 | [], _ => .nil
 | x :: l, k => .cons (k x (by simp)) (cB.map fun y hy => k y (by simp [hy]))
theorem cB.reverse {x : List SV} {u : List AV} (g : cB P h H ρ x u) : cB P h H ρ x.reverse u.reverse := by
 induction x generalizing u with
 | nil => cases g; exact .nil
 | cons a xs ih => cases g with | cons g1 g2 => simp only [List.reverse_cons]; exact (ih g2).append (.cons g1 .nil)
theorem SD.one {x : SV} {u : AV} (g : SD P h H ρ x u) (k : x.one = true) : u.one = true := by
 cases g <;> first | rfl | (simp [SV.one] at k; done) | skip
 ·rename_i e1 e2 e3 b
  rename_i e4 e5
  clear e1
  have b := ‹js _ _ = some _›
  unfold js at b
  split at b <;> simp at b <;> subst b <;> rfl
 ·have d := ‹Cn _ _ _ _ _ _›
  rcases d with ⟨_, rfl⟩ | ⟨l, _, ⟨b, off, cs, rfl, _⟩ | ⟨cs, l', rfl, _⟩⟩ <;> rfl
theorem cB.one {x : List SV} {u : List AV} (g : cB P h H ρ x u) (k : x.all SV.one = true) : u.all AV.one = true := by
 induction x generalizing u with
 | nil => cases g; rfl
 | cons a xs ih =>
  cases g with
  | cons g1 g2 =>
   simp only [List.all_cons, Bool.and_eq_true] at k ⊢
   exact ⟨g1.one k.1, ih g2 k.2⟩
theorem SD.one' {x : SV} {u : AV} (g : SD P h H ρ x u) (k : x.one = true) : u.cells = [u] := by
 have := g.one k
 cases u <;> first | rfl | simp [AV.one] at this
theorem SD.cells {x : SV} {u : AV} (g : SD P h H ρ x u) (hb : ∀ u, x ≠ .agg u) (hc : x ≠ .bad) : cB P h H ρ x.cells u.cells := by
 have e : x.cells = [x] := by cases x <;> first | rfl | exact absurd rfl (hb _)
 rw [e]
 cases x with
 | tuple l => cases g with | tuple g => exact .cons (.tuple g) .nil
 | agg l => exact absurd rfl (hb _)
 | bad => exact absurd rfl hc
 | _ => rw [g.one' rfl]; exact .cons g .nil
theorem SD.cells' {x : SV} {u : AV} (g : SD P h H ρ x u) (hc : x ≠ .bad) : cB P h H ρ x.cells u.cells := by
 by_cases hb : ∃ l, x = .agg l
 ·obtain ⟨l, rfl⟩ := hb
  cases g with | agg g => exact g
 ·exact g.cells (fun u e => hb ⟨u, e⟩) hc
theorem wO : ∀ v : Value, SD P h H ρ (Aq v) (CK v) := by
 intro v
 cases v
 case pointer a => cases a <;> constructor
 case slice a l c =>
  cases a
  ·cases l
   ·cases c <;> constructor
   ·constructor
  ·constructor
 case map r => cases r <;> constructor
 case bool b => exact .bool _
 case int k n => exact .int _ _
 case string s => exact .str rfl
 all_goals constructor
theorem pe : ∀ l : List Value, cB P h H ρ (l.map Aq) (l.map CK)
 | [] => .nil
 | v :: l => .cons (wO v) (pe l)
theorem wN (v : Value) : SD P h H ρ (Dw v) (x8 v) := by
 have g : SD P h H ρ (Aq v) (CK v) := wO v
 cases v
 case agg cs => exact .agg (pe _)
 case tuple vs => exact .tuple (pe _)
 all_goals exact g
theorem Cb : ∀ (n : Nat) {x y : SV} {a b : AV}, SV.beq n x y = true -> SD P h H ρ x a -> SD P h H ρ y b -> AV.beq (n + deep + 1) a b = true := by
 intro n
 induction n with
 | zero => intro x y a b e; simp [SV.beq] at e
 | succ n ih =>
  intro x y a b e g k
  have lists : ∀ {xs ys : List SV} {as_ bs : List AV}, cO (SV.beq n) xs ys = true -> cB P h H ρ xs as_ -> cB P h H ρ ys bs -> cO (AV.beq (n + deep + 1)) as_ bs = true := by
   intro xs
   induction xs with
   | nil => intro ys as_ bs e g k; cases ys <;> simp [cO] at e; cases g; cases k; rfl
   | cons x xs ihx =>
    intro ys as_ bs e g k
    cases ys with
    | nil => simp [cO] at e
    | cons y ys =>
     simp only [cO, Bool.and_eq_true] at e
     cases g with
     | cons g1 g2 => cases k with
      | cons k1 k2 => simp only [cO, Bool.and_eq_true]; exact ⟨ih e.1 g1 k1, ihx e.2 g2 k2⟩
  have hn : n + 1 + deep + 1 = (n + deep + 1) + 1 := by omega
  have hd : deep + 1 <= n + deep + 1 := by omega
  rw [hn]
  generalize n + deep + 1 = N at ih lists hd ⊢
  cases g <;> cases k <;> first | (simp [SV.beq] at e; done) | skip
  case bool.bool => simp [SV.beq] at e; subst e; simp [AV.beq]
  case int.int => simp [SV.beq] at e; obtain ⟨rfl, rfl⟩ := e; simp [AV.beq]
  case str.str => rename_i h1 _ _ h2; simp [SV.beq] at e; subst e; rw [h1] at h2; cases h2; simp [AV.beq]
  case fe.fe => simp [AV.beq]
  case addr.addr => rename_i h1 _ _ _ h2; simp [SV.beq] at e; obtain ⟨rfl, rfl⟩ := e; rw [h1] at h2; cases h2; simp [AV.beq]
  case bI.bI => rename_i h1 _ _ _ _ _ _ h2; simp [SV.beq] at e; obtain ⟨⟨rfl, rfl⟩, rfl⟩ := e; rw [h1] at h2; cases h2; simp [AV.beq]
  case aV.aV => simp [AV.beq]
  case cu.cu => simp [AV.beq]
  case cu.view => rename_i h1 _ _ _ _ h2; simp [SV.beq] at e; subst e; rw [h1] at h2; cases h2
  case view.cu => rename_i h1 _ h2; simp [SV.beq] at e; subst e; rw [h1] at h2; cases h2
  case view.view => rename_i h1 _ _ _ _ h2; simp [SV.beq] at e; subst e; rw [h1] at h2; cases h2; simp [AV.beq]
  case pure.pure =>
   simp [SV.beq] at e
   obtain ⟨⟨rfl, rfl⟩, rfl⟩ := e
   have q := ‹Cn _ _ _ _ _ a›
   have w1 := ‹fq h H ρ _ = some a›
   have w2 := ‹fq h H ρ _ = some b›
   rw [w1] at w2; cases w2
   exact q.beq _ (by omega)
  case fK.fK => simp [AV.beq]
  case fB.fB => simp [AV.beq]
  case func.func =>
   rename_i h1 h2 _ _ _ _ _ h3 h4
   simp [SV.beq] at e
   obtain ⟨⟨rfl, e1⟩, e2⟩ := e
   simp [AV.beq, lists e1 h1 h3, lists e2 h2 h4]
  case aF.aF => rename_i h1 _ _ h2; simp [SV.beq] at e; subst e; rw [h1] at h2; cases h2; simp [AV.beq]
  case cW.cW => simp [AV.beq]
  case iface.iface => rename_i h1 _ _ _ h2; simp [SV.beq] at e; obtain ⟨rfl, e⟩ := e; simp [AV.beq, ih e h1 h2]
  case agg.agg => rename_i h1 _ _ h2; simp [SV.beq] at e; simp [AV.beq, lists e h1 h2]
  case tuple.tuple => rename_i h1 _ _ h2; simp [SV.beq] at e; simp [AV.beq, lists e h1 h2]
end
end Go.Sym
