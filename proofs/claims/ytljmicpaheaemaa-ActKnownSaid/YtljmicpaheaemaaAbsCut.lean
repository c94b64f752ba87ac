/- A run in pieces: blocks that nobody names any more may be dropped between two pieces. -/
import Derived.Test.YtljmicpaheaemaaAbsSound
import Derived.Test.YtljmicpaheaemaaAbsFast2
namespace Go.Abs
open Go.RowKit (Below)
set_option linter.unusedSimpArgs false
set_option linter.unusedVariables false

noncomputable def keepT (h : Heap) : List Nat → Tr AObj
  | [] => .nil
  | b :: l => match h.get b with
    | some o => (keepT h l).set b o
    | none => keepT h l
noncomputable def keepH (h : Heap) (keep : List Nat) : Heap := { next := h.next, t := keepT h keep }

theorem keepT_get (h : Heap) : ∀ (l : List Nat) (b : Nat), (keepT h l).get b = if b ∈ l then h.get b else none
  | [], b => by simp [keepT, Tr.get_nil]
  | c :: l, b => by
    unfold keepT
    cases hc : h.get c with
    | none =>
      simp only [keepT_get h l b, List.mem_cons]
      by_cases e : b = c
      · subst e; simp [hc]
      · simp [e]
    | some o =>
      simp only [Tr.get_set, keepT_get h l b, List.mem_cons]
      by_cases e : b = c
      · subst e; simp [hc]
      · simp [e]
theorem keepH_get (h : Heap) (l : List Nat) (b : Nat) : (keepH h l).get b = if b ∈ l then h.get b else none := keepT_get h l b

def blockIn : AV → Option Nat
  | .ptr b _ => some b
  | .slice b _ _ _ => some b
  | .map b => some b
  | _ => none
noncomputable def pinned (keep : List Nat) (tm : Tr AV) (o : Oper) : Bool :=
  !isNew o || match o.dst with
    | some d => match blockIn (tmGet tm d) with
      | some b => keep.contains b
      | none => true
    | none => true
noncomputable def pinsF (keep : List Nat) (f : AFrame) : Bool :=
  match f.todo with
  | .dreg ops _ :: _ => ops.toList.all (pinned keep f.tm)
  | _ => true
def quiet (f : AFrame) : Bool :=
  match f.todo with
  | .dreg _ _ :: _ => false
  | _ => true
noncomputable def cut (keep : List Nat) (m : AMach) : Option AMach :=
  cond (quiet m.fr && m.callers.all (pinsF keep)) (some { fr := m.fr, callers := m.callers, h := keepH m.h keep }) none

theorem afresh_block {P : Program} {n : Nat} {tm : Tr AV} {o : Oper} {ob : AObj} {v : AV} (e : afresh P n tm o = some (ob, v)) : blockIn v = some n := by
  unfold afresh at e
  split at e
  · split at e
    · obtain ⟨_, e⟩ := cond_some e; cases e; rfl
    · cases e
  · split at e
    · cases e
    · obtain ⟨_, e⟩ := cond_some e; cases e; rfl
  · split at e
    · split at e
      · obtain ⟨_, e⟩ := cond_some e
        split at e
        · obtain ⟨_, e⟩ := cond_some e; cases e; rfl
        · cases e
      · cases e
    · cases e
  · split at e
    · split at e
      · obtain ⟨_, e⟩ := cond_some e; cases e; rfl
      · cases e
    · cases e
  · split at e
    · cases e; rfl
    · split at e
      · cases e; rfl
      · cases e
  · cases e

section
variable {P : Program} {μ : Mu} {I : Imm} {h : Heap} {w0 w : World} {keep : List Nat}

theorem Pend.kept {lo hi : Nat} {ops : Array Oper} {tm : Tr AV} {o : Oper} {d β : Nat} (hd : o.dst = some d) (hp : pinned keep tm o = true) (p : Pend P μ h false lo hi ops tm o d β) : Pend P μ (keepH h keep) false lo hi ops tm o d β := by
  unfold Pend at p ⊢
  cases hw : awanted ops tm o with
  | none => rw [hw] at p; exact p
  | some b =>
    rw [hw] at p
    cases b with
    | false => exact p
    | true =>
      simp only at p ⊢
      split at p
      · rename_i hn
        obtain ⟨ob, h1, h2, h3, h4, h5⟩ := p
        rw [if_pos hn]
        have hb := afresh_block h1
        unfold pinned at hp
        simp only [hn, Bool.not_true, Bool.false_or, hd, hb] at hp
        refine ⟨ob, h1, h2, ?_, h4, h5⟩
        rw [keepH_get, if_pos (by simpa using hp)]; exact h3
      · rename_i hn
        rw [if_neg hn]
        intro hr
        have hr' : reads o = false := hr.resolve_left (by simp)
        rw [alight_pure (h' := h) hr']
        exact p (.inr hr')

theorem FRel.kept {lo hi : Nat} {f : AFrame} {c : Frame} (hp : pinsF keep f = true) (r : FRel P μ I h false lo hi f c) : FRel P μ I (keepH h keep) false lo hi f c := by
  refine ⟨r.fn, r.has, r.kind, r.round, r.defers, r.size, ?_⟩
  have hs := r.st
  obtain ⟨fn, nt, tm, todo, defers, mode, deferred, roundOf⟩ := f
  simp only at hs ⊢
  cases hs with
  | ret a b => exact .ret a b
  | pan a b c => exact .pan a b c
  | run a b =>
    refine .run a ?_
    generalize c.todo = ct at b ⊢
    generalize c.tmps = cm at b ⊢
    cases b with
    | plain a b => exact .plain a b
    | drawn a b c =>
      refine .drawn a ⟨b.ok, b.pre, b.lin, b.sub, fun i hi hg => ?_, b.inj, b.tms⟩ c
      obtain ⟨o, d, h1, h2, h3, h5, h4⟩ := b.pend i hi hg
      refine ⟨o, d, h1, h2, h3, h5, h4.kept h2 ?_⟩
      unfold pinsF at hp
      simp only [List.all_eq_true] at hp
      exact hp o (Array.mem_toList_iff.2 (Array.mem_of_getElem? h1))

theorem FRel.keptQuiet {lo hi : Nat} {f : AFrame} {c : Frame} (hp : quiet f = true) (r : FRel P μ I h true lo hi f c) : FRel P μ I (keepH h keep) true lo hi f c := by
  refine ⟨r.fn, r.has, r.kind, r.round, r.defers, r.size, ?_⟩
  have hs := r.st
  obtain ⟨fn, nt, tm, todo, defers, mode, deferred, roundOf⟩ := f
  simp only at hs ⊢
  cases hs with
  | ret a b => exact .ret a b
  | pan a b c => exact .pan a b c
  | run a b =>
    refine .run a ?_
    generalize c.todo = ct at b ⊢
    generalize c.tmps = cm at b ⊢
    cases b with
    | plain a b => exact .plain a b
    | drawn a b c => simp [quiet] at hp

theorem Stack.kept {ub : Nat} {fs : List AFrame} {cs : List Frame} (r : Stack P μ I h ub fs cs) (hp : fs.all (pinsF keep) = true) : Stack P μ I (keepH h keep) ub fs cs := by
  induction r with
  | nil => exact .nil
  | cons a b _ ih =>
    simp only [List.all_cons, Bool.and_eq_true] at hp
    exact .cons (a.kept hp.1) b (ih hp.2)

theorem WRel.kept (W : WRel μ I w0 h w) : WRel μ I w0 (keepH h keep) w := by
  have hk : ∀ c ob, (keepH h keep).get c = some ob → h.get c = some ob := by
    intro c ob e; rw [keepH_get] at e; split at e
    · exact e
    · cases e
  exact ⟨W.below, fun c ob e => W.live c ob (hk c ob e), W.mapped, fun c ob B o N e m => W.objs c ob B o N (hk c ob e) m,
    fun c c' ob ob' B o N o' N' e e' => W.inj c c' ob ob' B o N o' N' (hk _ _ e) (hk _ _ e'),
    fun B o v e => ⟨(W.imm B o v e).1, rfl, fun c ob o' N e' => (W.imm B o v e).2.2 c ob o' N (hk _ _ e')⟩⟩

theorem MRel.cut {m m' : AMach} {c : Frame} {cs : List Frame} (e : cut keep m = some m') (r : MRel P μ I w0 m c cs w) : MRel P μ I w0 m' c cs w := by
  unfold Abs.cut at e
  obtain ⟨hq, e⟩ := cond_some e
  cases e
  simp only [Bool.and_eq_true] at hq
  obtain ⟨⟨lo, h1, h2, h3⟩, hW⟩ := r
  exact ⟨⟨lo, h1, h2.keptQuiet hq.1, h3.kept hq.2⟩, hW.kept⟩
end

/-- From m the machine comes to m', blocks dropped. -/
def Leads (P : Program) (m m' : AMach) : Prop :=
  ∀ (I : Imm) (w0 : World) (μ : Mu) (c : Frame) (cs tl : List Frame) (w : World), MRel P μ I w0 m c cs w → Sim P I w0 m' c cs tl w
theorem Leads.refl {P : Program} (m : AMach) : Leads P m m := fun I w0 μ c cs tl w r => ⟨μ, c, cs, w, Steps.refl _ _, r⟩
theorem Leads.trans {P : Program} {a b d : AMach} (x : Leads P a b) (y : Leads P b d) : Leads P a d := fun I w0 μ c cs tl w r => by
  obtain ⟨μ1, c1, cs1, w1, s1, r1⟩ := x I w0 μ c cs tl w r
  obtain ⟨μ2, c2, cs2, w2, s2, r2⟩ := y I w0 μ1 c1 cs1 tl w1 r1
  exact ⟨μ2, c2, cs2, w2, s1.trans s2, r2⟩
theorem leads_run {P : Program} (K : ProgOk P) {pl : Plans} {n : Nat} {m m' : AMach} (e : arunF P pl n m = some m') : Leads P m m' := fun I w0 μ c cs tl w r =>
  arun_sim K n (by rw [← arunF_eq]; exact e) r
theorem leads_cut {P : Program} {keep : List Nat} {m m' : AMach} (e : cut keep m = some m') : Leads P m m' := fun I w0 μ c cs tl w r => ⟨μ, c, cs, w, Steps.refl _ _, r.cut e⟩
theorem leads_piece {P : Program} (K : ProgOk P) {pl : Plans} {n : Nat} {keep : List Nat} {m m' : AMach} (e : (arunF P pl n m).bind (cut keep) = some m') : Leads P m m' := by
  cases h : arunF P pl n m with
  | none => rw [h] at e; cases e
  | some x => rw [h] at e; exact (leads_run K h).trans (leads_cut e)

noncomputable def begin_ (P : Program) (f : FuncId) (args : List AV) : Option AMach := (enter P f args false).map fun fr => { fr, callers := [], h := { next := 0, t := .nil } }
/-- A run of the abstract machine to the call's end is the model's call, in every world. -/
theorem calls_of_leads {P : Program} {I : Imm} {f : FuncId} {args : List AV} {as_ : Array Value} {m0 : AMach} {m : AMach} {v : AV} (h0 : begin_ P f args = some m0) (h1 : Leads P m0 m) (h2 : done P f m = some v)
    (w : World) (himm : ∀ B o v, I B o = some v → w.cell? ⟨B, o, none⟩ = some v) (hargs : VRels (fun _ => none) I args as_.toList) :
    Calls P f as_ w fun e w' => ∃ μ u, e = .returned u ∧ VRel μ I v u ∧ Below w.heap.size w w' := by
  intro cs
  unfold begin_ at h0
  cases hfr : enter P f args false with
  | none => rw [hfr] at h0; cases h0
  | some fr =>
  rw [hfr] at h0
  simp only [Option.map_some, Option.some.injEq] at h0
  subst h0
  have hE := enter_rel hfr hargs true 0 0 { next := 0, t := .nil }
  simp only [Bool.false_eq_true, if_false] at hE
  have r0 : MRel P (fun _ => none) I w { fr, callers := [], h := { next := 0, t := .nil } } (Frame.enter P f as_ .normal) [] w := ⟨⟨0, Nat.le_refl _, hE, .nil⟩, start_rel w himm⟩
  obtain ⟨μ, c', cs', w', s, ⟨⟨lo, hlo, hF, hS⟩, hW⟩⟩ := h1 I w _ _ _ cs _ r0
  unfold done at h2
  split at h2
  case h_2 => cases h2
  case h_1 hc hm hd =>
  rw [hc] at hS
  cases hS
  obtain ⟨hq, h2⟩ := cond_some h2
  simp only [Bool.and_eq_true, Bool.not_eq_true'] at hq
  have hfn := beq_tt hq.1
  split at h2
  case h_2 => cases h2
  case h_1 fn hfn' =>
  have hex : ∃ vs, aresults P m.h m.fr.tm fn.results.toList = some vs ∧ packed vs = v := by
    cases hr : aresults P m.h m.fr.tm fn.results.toList with
    | none => rw [hr] at h2; cases h2
    | some vs =>
      rw [hr] at h2
      refine ⟨vs, rfl, ?_⟩
      cases vs with
      | nil => simp at h2; exact h2
      | cons a b => cases b <;> (simp at h2; exact h2)
  obtain ⟨vs, hr, rfl⟩ := hex
  have hst := hF.st
  rw [hm] at hst
  cases hst with
  | ret z1 z2 =>
    obtain ⟨u, hu1, hu2⟩ := results_run (P := P) hW z2 hr
    refine ⟨.returned u, w', c', ⟨μ, u, rfl, hu2, hW.below⟩, s, by rw [hF.fn, hfn], z1, ?_, by rw [hF.kind, hq.2]; rfl, fn, ?_, hu1⟩
    · have := hF.defers; rw [hd] at this; generalize c'.defers = ds at this; cases this; rfl
    · rw [hF.fn]; exact hfn'


/-! ### Places in the program's code -/
def subCode : List Nat → Code → Code
  | [], c => c
  | i :: l, c => match c with
    | .seq a b => match i with
      | 0 => subCode l a
      | _ => subCode l b
    | .cond _ a b => match i with
      | 0 => subCode l a
      | _ => subCode l b
    | .block _ a => subCode l a
    | .loop a => subCode l a
    | .scope a => subCode l a
    | .rangeFunc _ _ a b => match i with
      | 0 => subCode l a
      | _ => subCode l b
    | c => c
noncomputable def codeAt (P : Program) (f : FuncId) (l : List Nat) : Code :=
  match P.funcs[f]? with
  | some fn => match fn.body with
    | some c => subCode l c
    | none => .skip
  | none => .skip
noncomputable def opsAt (P : Program) (f : FuncId) (l : List Nat) : Array Oper :=
  match codeAt P f l with
  | .region _ ops _ => ops
  | _ => #[]
noncomputable def parAt (P : Program) (f : FuncId) (l : List Nat) : Array Tmp :=
  match codeAt P f l with
  | .rangeFunc _ ps _ _ => ps
  | _ => #[]
noncomputable def regAt (P : Program) (f : FuncId) (l : List Nat) (i : Nat) : AItem := .reg (opsAt P f l) i ((opsAt P f l).toList.drop i)
def bytesOf (l : List Nat) : ByteArray := ⟨⟨l.map UInt8.ofNat⟩⟩
end Go.Abs
