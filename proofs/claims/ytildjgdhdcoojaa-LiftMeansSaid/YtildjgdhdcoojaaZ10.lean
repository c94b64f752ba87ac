/- Texts of the claim: SymClosed, AbsPost, SymLaw, Big, T1, Num1, Num2, Num3, Num4, Num5, Num6, Lift1, Lift2, Lift3, Num7, Num8, Lift4, Lift5, Lift6, Lift7. -/
import Derived.Test.YtildjgdhdcoojaaZ08
import Derived.Test.YtildjgdhdcoojaaZ07
import Derived.ChangeSame
import Derived.RowKit3
import Derived.Carry
import Derived.Test.YtildjgdhdcoojaaZ09
/- A closed run as a contract. -/
namespace Go.Sym
open Go Go.Abs
open Go.RowKit (Below)
set_option linter.unusedVariables false
set_option linter.unusedSimpArgs false

theorem WRel.grow {μ : Mu} {I : Imm} {w0 w w' : World} {h : Heap} (W : WRel μ I w0 h w) (b : Below w.heap.size w w') : WRel μ I w0 h w' := by
  refine ⟨W.below.trans (b.mono W.below.size), W.live, fun c B o N e => ?_, fun c ob B o N e m => ?_, W.inj, fun B o v e => ?_⟩
  · obtain ⟨h1, h2, h3⟩ := W.mapped c B o N e
    exact ⟨h1, Nat.lt_of_lt_of_le h2 b.size, h3⟩
  · obtain ⟨obj, h1, h2⟩ := W.objs c ob B o N e m
    exact ⟨obj, by rw [b.block _ (W.mapped c B o N m).2.1]; exact h1, h2⟩
  · obtain ⟨h1, _, h3⟩ := W.imm B o v e
    refine ⟨?_, rfl, h3⟩
    have hlt : B < w.heap.size := by
      apply Decidable.byContradiction
      intro hq
      have hno : w.heap[B]? = none := Array.getElem?_eq_none (by omega)
      simp [World.cell?, hno] at h1
    have := b.cell (p := ⟨B, o, none⟩) hlt
    rw [this]; exact h1

/-- The end of a closed run: a temporary holds the result. -/
noncomputable def doneT (P : Program) (f : FuncId) (t : Tmp) (b : Bool) (m : AMach) : Bool :=
  match m.callers, m.fr.mode, m.fr.defers, m.fr.roundOf with
  | [], .returning, [], none => Nat.beq m.fr.fn f && !m.fr.deferred && (match m.fr.tm.get t with | some (.bool c) => c == b | _ => false)
  | _, _, _, _ => false

noncomputable def endF (f nt t : Nat) (b : Bool) : AFrame := { fn := f, nt, tm := Tr.nil.set t (.bool b), todo := [], defers := [], mode := .returning, deferred := false, roundOf := none }
theorem leads_closed {P : Program} {f : FuncId} {g : AFrame} {m : AMach} {t : Tmp} {b : Bool} (hg : enter P f [] false = some g) (h1 : Leads P ⟨g, [], ⟨0, .nil⟩⟩ m) (h2 : doneT P f t b m = true) (h : Heap) (callers : List AFrame) :
    Leads P ⟨g, callers, h⟩ ⟨endF f m.fr.nt t b, callers, h⟩ := by
  intro I w0 μ c cs tl w r
  obtain ⟨⟨lo, hlo, hF, hS⟩, hW⟩ := r
  simp only at hlo hF hS hW
  unfold enter at hg
  split at hg
  case h_2 => cases hg
  rename_i fn hfn
  split at hg
  case h_2 => cases hg
  rename_i body hb
  obtain ⟨_, hg⟩ := cond_ok hg
  cases hg
  -- the frame, alone
  have hcm : c.mode = .run ∧ TodoRel P μ I h true lo h.next [.code body] (enter.setAll .nil 0 []) c.todo c.tmps := by
    have := hF.st
    cases this with | run a b => exact ⟨a, b⟩
  have htd : c.todo = [.code body] := by
    have h := hcm.2
    generalize c.todo = ct at h
    generalize c.tmps = cm at h
    cases h with
    | plain a b =>
      cases a with
      | cons x y =>
        cases y
        cases x
        rfl
  have hround : c.roundOf = none := by
    have h := hF.round
    generalize c.roundOf = cr at h
    simp only at h
    cases h; rfl
  have hdef : c.defers = [] := by
    have h := hF.defers
    generalize c.defers = cd at h
    simp only at h
    cases h; rfl
  have r0 : MRel P (fun _ => none) I w ⟨{ fn := f, nt := fn.ntmps, tm := enter.setAll .nil 0 [], todo := [.code body], defers := [], mode := .run, deferred := false, roundOf := none }, [], ⟨0, .nil⟩⟩ c [] w := by
    refine ⟨⟨0, Nat.le_refl _, ⟨hF.fn, hF.has, hF.kind, ?_, ?_, hF.size, ?_⟩, .nil⟩, start_rel w fun B o v e => (hW.imm B o v e).1⟩
    · rw [hround]; exact .none
    · rw [hdef]; exact .nil
    · refine .run hcm.1 ?_
      rw [htd]
      exact .plain (.cons (.code _) .nil) (fun t v e => by rw [enter.setAll, Tr.get_nil] at e; cases e)
  obtain ⟨μ', c', cs', w', s, ⟨⟨lo', hlo', hF', hS'⟩, hW'⟩⟩ := h1 I w _ c [] (cs ++ tl) w r0
  unfold doneT at h2
  split at h2
  case h_2 => cases h2
  rename_i hc hm hd hro
  simp only [Bool.and_eq_true, Bool.not_eq_true'] at h2
  obtain ⟨⟨k1, k2⟩, k3⟩ := h2
  have k1 := beq_tt k1
  rw [hc] at hS'
  cases hS'
  refine ⟨μ, c', cs, w', by simpa using s, ⟨⟨lo, hlo, ⟨?_, ⟨fn, hfn⟩, ?_, ?_, ?_, hF'.size, ?_⟩, hS⟩, WRel.grow hW hW'.below⟩⟩
  · rw [hF'.fn, k1]; rfl
  · rw [hF'.kind, k2]; rfl
  · have h := hF'.round
    rw [hro] at h
    generalize c'.roundOf = cr at h
    cases h
    exact .none
  · have h := hF'.defers
    rw [hd] at h
    generalize c'.defers = cd at h
    cases h; exact .nil
  · have hst := hF'.st
    rw [hm] at hst
    cases hst with
    | ret a z =>
      refine .ret a ?_
      intro t' v e
      simp only [endF] at e
      rw [Tr.get_set, Tr.get_nil] at e
      split at e
      · rename_i ht
        cases e
        subst ht
        split at k3
        · rename_i c2 hq
          have hv := z _ _ hq
          have : c2 = b := by simpa using k3
          subst this
          generalize c'.tmps.getD t' undef = u at hv
          cases hv
          exact .bool _
        · cases k3
      · cases e
theorem fn_closed {P : Program} {f : FuncId} {g : AFrame} {m : AMach} {t : Tmp} {b : Bool} (hg : enter P f [] false = some g) (h1 : Leads P ⟨g, [], ⟨0, .nil⟩⟩ m) (h2 : doneT P f t b m = true)
    (hs : (match P.funcs[f]? with | some fn => (match fn.params.toList, fn.resultTypes.toList, fn.results.toList with | [], [rt], [.tmp t'] => Nat.beq t' t && decide (sizeT P rt = some 1) && (match P.underlying rt with | some .bool => true | _ => false) | _, _, _ => false) | none => false) = true) : Fn P f [] (.bool b) := by
  intro h S as_ fn hfn hS hno ga
  rw [hfn] at hs
  simp only at hs
  split at hs
  case h_2 => cases hs
  rename_i rt t' hp hr hres
  simp only [Bool.and_eq_true, decide_eq_true_eq] at hs
  obtain ⟨⟨e1, e2⟩, e3⟩ := hs
  have e1 := beq_tt e1
  subst e1
  rw [hp] at ga
  cases ga
  split at e3
  case h_2 => cases e3
  rename_i hu
  refine ⟨g, hg, fun callers => ⟨endF f m.fr.nt t' b, h, [.bool b], Nat.le_refl _, fun _ _ => rfl, hno, ?_, rfl, rfl, rfl, rfl, ?_, leads_closed hg h1 h2 h callers⟩⟩
  · rw [hr]
    exact ⟨_, rfl, [.bool b], ⟨e2, by rw [hu]; exact ⟨b, rfl, rfl⟩⟩, .inr ⟨by simp [isAggT, hu], rfl⟩⟩
  · rw [hres]
    have : tmGet (endF f m.fr.nt t' b).tm t' = .bool b := by
      simp only [endF, tmGet]
      rw [Tr.get_set]; simp
    simp [aresults, this]
end Go.Sym
/- What a claim's row asks, from a run of the abstract machine. -/
namespace Go.Abs
open Go.ChangeShapes Go.WideShapes
open Go.RowKit (Below)

theorem post_of_below {H : Type} {enc : TypeId × Value → H} {P : Program} {f : Func} {s : ChangeSpec} {apart fresh handsOn again : Bool} {W W' : World} {args : Array Value} {v : Value} {ds gs : List (DataW H)} {before pa pv : List MemPlace}
    (hW : DataW.Whole enc P f.params.toList s.vars apart W args.toList ds gs before)
    (hres : ∀ (b : Nat) (sp : Nat → Bool) (hd : Bool), DataW.TrodAll enc P W' b sp hd f.resultTypes.toList (v.resultList f.resultTypes.size) (s.fn H (ds ++ gs)).results [])
    (hargs : ∀ sp : Nat → Bool, (∀ p ∈ before, sp p.block = true) → DataW.TrodAll enc P W' 0 sp true f.params.toList args.toList (s.fn H (ds ++ gs)).args pa)
    (hvars : ∀ sp : Nat → Bool, (∀ p ∈ before, sp p.block = true) → DataW.TrodVars enc P W' sp s.vars (s.fn H (ds ++ gs)).vars pv)
    (hps : before = pa ++ pv) (hb : Below W.heap.size W W')
    (hok : ∀ (j : Nat) (t : TypeId) (r : Value), f.resultTypes[j]? = some t → (v.resultList f.resultTypes.size)[j]? = some r → Value.okWide P W' .any 0 t r) :
    s.post enc P f apart fresh handsOn again W args v W' := by
  have hold : ∀ p ∈ before, (fun b => decide (b < W.heap.size)) p.block = true := fun p hp => by simpa using hW.lt p hp
  refine ⟨ds, gs, before, [], pa, pv, hW, hres _ _ _, hargs _ hold, hvars _ hold, World.keptBut_mono (fun p hp => ⟨hp, ?_⟩) (hb.frame (· ∈ before)), fun _ => ?_⟩
  · rw [hps, List.mem_append] at hp
    exact Or.inr hp
  · have hlt := hW.lt
    obtain ⟨_, _, _, _, _, hz, hn⟩ := hW
    refine ⟨hok, _, _, ([] ++ pa) ++ pv, ⟨[] ++ pa, pv, trodAll_append (hargs _ (fun _ _ => rfl)) (hres _ _ _), hvars _ (fun _ _ => rfl), rfl, ?_, ?_⟩, ?_⟩
    · intro b off hp
      have hp' : MemPlace.cell b off ∈ before := by rw [hps]; simpa using hp
      rw [hb.frozen (p := ⟨b, off, none⟩) (hlt _ hp')]
      exact hz b off hp'
    · intro ha
      have := hn ha
      rw [hps] at this
      simpa using this
    · intro p hp _
      rw [hps]
      simpa using hp

/-- A closed law: the machine comes to 'true'. -/
theorem calls_true {P : Program} {f : FuncId} {m0 m : AMach} (h0 : begin_ P f [] = some m0) (h1 : Leads P m0 m) (h2 : done P f m = some (.bool true)) (w : World) :
    Calls P f #[] w fun e w' => e = .returned (.bool true) ∧ Below w.heap.size w w' :=
  (calls_of_leads (I := fun _ _ => none) (as_ := #[]) h0 h1 h2 w (fun _ _ _ e => by cases e) (by exact .nil)).mono fun e w' ⟨μ, u, he, hu, hb⟩ => by
    subst he
    cases hu
    exact ⟨rfl, hb⟩
theorem leads_last {P : Program} (K : ProgOk P) {pl : Plans} {f : FuncId} {n : Nat} {m : AMach} {v : AV} (e : (arunF P pl n m).bind (done P f) = some v) : ∃ m', Leads P m m' ∧ done P f m' = some v := by
  cases h : arunF P pl n m with
  | none => rw [h] at e; cases e
  | some x => rw [h] at e; exact ⟨x, leads_run K h, e⟩
end Go.Abs
/- From a law's contract to its row: the arguments. -/
namespace Go.Sym
open Go Go.Abs
open Go.RowKit (Below)
set_option linter.unusedVariables false
set_option linter.unusedSimpArgs false

/-- A value of a type: its numbers fit, its lists are not too long. -/
def WT (P : Program) : Nat → TypeId → V → Prop
  | 0, _, _ => False
  | d + 1, t, x => match P.underlying t with
    | some (.int k) => ∃ n, x = .int n ∧ k.min ≤ n ∧ n ≤ k.max
    | some .bool => ∃ b, x = .bool b
    | some .string => ∃ s, x = .str s
    | some (.slice et) => x = .nil ∨ ∃ l, x = .list l ∧ l.length ≤ Go.maxLen ∧ ∀ y ∈ l, WT P d et y
    | some (.struct fields) => ∃ xs, x = .list xs ∧ xs.length = fields.toList.length ∧ ∀ (i : Nat) f y, fields.toList[i]? = some f → xs[i]? = some y → WT P d f.type y
    | some (.array n et) => ∃ xs, x = .list xs ∧ xs.length = n ∧ ∀ y ∈ xs, WT P d et y
    | _ => False
inductive WTs (P : Program) : List TypeId → List V → Prop
  | nil : WTs P [] []
  | cons {t : TypeId} {x : V} {ts : List TypeId} {xs : List V} : WT P deep t x → WTs P ts xs → WTs P (t :: ts) (x :: xs)
def tyOk (P : Program) : Nat → TypeId → Bool
  | 0, _ => false
  | d + 1, t => match sizeT P t with
    | none => false
    | some n => match P.underlying t with
      | some (.int _) | some .bool | some .string => Nat.beq n 1
      | some (.slice et) => Nat.beq n 1 && (match sizeT P et with | some (_ + 1) => true | _ => false) && tyOk P d et
      | some (.struct fields) => decide (tight P fields.toList 0 = some n) && fields.toList.all fun f => tyOk P d f.type
      | some (.array m et) => match sizeT P et with
        | some s => Nat.beq n (m * s) && tyOk P d et
        | none => false
      | _ => false

theorem mapM_range' {α : Type} {f : Nat → Option α} : ∀ {n j : Nat} {l : List α}, (List.range' j n).mapM f = some l → l.length = n ∧ ∀ i x, l[i]? = some x → f (j + i) = some x
  | 0, j, l, e => by simp at e; subst e; exact ⟨rfl, fun i x h => by simp at h⟩
  | n + 1, j, l, e => by
    rw [List.range'_succ, List.mapM_cons] at e
    simp only [Option.bind_eq_bind, Option.bind_eq_some_iff, Option.pure_def, Option.some.injEq] at e
    obtain ⟨a, h1, r, h2, rfl⟩ := e
    obtain ⟨k1, k2⟩ := mapM_range' h2
    refine ⟨by simp [k1], fun i x hx => ?_⟩
    cases i with
    | zero => simp at hx; subst hx; exact h1
    | succ i => rw [show j + (i + 1) = j + 1 + i from by omega]; exact k2 i x (by simpa using hx)
theorem mapM_range {α : Type} {f : Nat → Option α} {n : Nat} {l : List α} (e : (List.range n).mapM f = some l) : l.length = n ∧ ∀ i x, l[i]? = some x → f i = some x := by
  rw [List.range_eq_range'] at e
  obtain ⟨h1, h2⟩ := mapM_range' e
  exact ⟨h1, fun i x hx => by simpa using h2 i x hx⟩

section
variable {H : Type} {enc : TypeId × Value → H} {P : Program} {w : World} {sp : Nat → Bool} {held : Bool}

/-- The memory of a world. -/
def memOf (w : World) : Imm := fun B o => w.cell? ⟨B, o, none⟩
def noB : Nat → Prop := fun _ => False
def noMu : Mu := fun _ => none
noncomputable def noH : Heap := ⟨0, .nil⟩

theorem cell_spot {a : Addr} {v : Value} (e : w.cell? a = some v) : a = ⟨a.block, a.off, none⟩ := by
  obtain ⟨b, o, s⟩ := a
  cases s with
  | none => rfl
  | some s => unfold World.cell? at e; split at e <;> simp at e
theorem add_add (b o n : Nat) : (Addr.mk b o none).add n = ⟨b, o + n, none⟩ := Abs.add_none b o n
theorem VRels.icells {acs : List AV} {cs : List Value} {I : Imm} {B : Nat} : ∀ {o : Nat}, VRels noMu I acs cs → (∀ k v, cs[k]? = some v → I B (o + k) = some v) → ICells noMu I acs B o := by
  induction acs generalizing cs with
  | nil => intro o g h; exact .nil
  | cons a acs ih =>
    intro o g h
    cases g with
    | cons g1 g2 =>
      refine .cons (h 0 _ rfl) g1 (ih g2 fun k v hk => ?_)
      rw [show o + 1 + k = o + (k + 1) from by omega]
      exact h (k + 1) v (by simpa using hk)
theorem ICells.append {I : Imm} {B : Nat} {x y : List AV} : ∀ {o : Nat}, ICells noMu I x B o → ICells noMu I y B (o + x.length) → ICells noMu I (x ++ y) B o := by
  induction x with
  | nil => intro o _ h; simpa using h
  | cons a x ih =>
    intro o g h
    cases g with
    | cons g0 g1 g2 => exact .cons g0 g1 (ih g2 (by rw [show o + 1 + x.length = o + (a :: x).length from by simp; omega]; exact h))

theorem trod_rel : ∀ {d fuel : Nat} {t : TypeId} {cs : List Value} {dd : DataW H} {ps : List MemPlace}, tyOk P d t = true → DataW.trod enc P w 0 (fun _ => true) held fuel t cs = some (dd, ps) → sizeT P t = some cs.length →
    ∃ x acs, WT P d t x ∧ VRels noMu (memOf w) acs cs ∧ PV P noH noB d t x acs
  | 0, _, _, _, _, _, e, _, _ => by simp [tyOk] at e
  | d + 1, 0, _, _, _, _, _, e, _ => by simp [DataW.trod] at e
  | d + 1, fuel + 1, t, cs, dd, ps, ht, e, hsz => by
    have ih := @trod_rel d
    unfold tyOk at ht
    rw [hsz] at ht
    simp only at ht
    unfold DataW.trod at e
    cases hu : P.underlying t with
    | none => rw [hu] at ht; cases ht
    | some td =>
    rw [hu] at ht e
    have mkPV : ∀ {x : V} {acs : List AV}, acs.length = cs.length → (match some td with
        | some (.int k) => ∃ n, x = .int n ∧ acs = [.int k n]
        | some .bool => ∃ b, x = .bool b ∧ acs = [.bool b]
        | some .string => ∃ s, x = .str s ∧ acs = [.str s]
        | some (.slice et) => ∃ av sz, acs = [av] ∧ sizeT P et = some sz ∧ 0 < sz ∧ PSl noH noB sz (PV P noH noB d et) x av
        | some (.struct fields) => ∃ xs, x = .list xs ∧ PFl P (PV P noH noB d) fields.toList 0 xs acs
        | some (.array n et) => ∃ xs sz, x = .list xs ∧ xs.length = n ∧ sizeT P et = some sz ∧ PRow sz (PV P noH noB d et) xs acs
        | _ => False) → PV P noH noB (d + 1) t x acs := by
      intro x acs hl h
      refine ⟨by rw [hsz, hl], ?_⟩
      rw [hu]
      exact h
    have wt : ∀ {x : V}, (match some td with
        | some (.int k) => ∃ n, x = .int n ∧ k.min ≤ n ∧ n ≤ k.max
        | some .bool => ∃ b, x = .bool b
        | some .string => ∃ s, x = .str s
        | some (.slice et) => x = .nil ∨ ∃ l, x = .list l ∧ l.length ≤ Go.maxLen ∧ ∀ y ∈ l, WT P d et y
        | some (.struct fields) => ∃ xs, x = .list xs ∧ xs.length = fields.toList.length ∧ ∀ (i : Nat) f y, fields.toList[i]? = some f → xs[i]? = some y → WT P d f.type y
        | some (.array n et) => ∃ xs, x = .list xs ∧ xs.length = n ∧ ∀ y ∈ xs, WT P d et y
        | _ => False) → WT P (d + 1) t x := by
      intro x h
      unfold WT
      rw [hu]
      exact h
    cases td <;> simp only at ht <;> first | (cases ht; done) | skip
    case bool =>
      obtain ⟨v, rfl⟩ : ∃ v, cs = [v] := List.length_eq_one_iff.1 (beq_tt ht)
      cases v <;> simp at e
      rename_i b
      exact ⟨.bool b, [.bool b], wt ⟨b, rfl⟩, .cons (.bool b) .nil, mkPV rfl ⟨b, rfl, rfl⟩⟩
    case int k =>
      obtain ⟨v, rfl⟩ : ∃ v, cs = [v] := List.length_eq_one_iff.1 (beq_tt ht)
      cases v <;> simp at e
      rename_i k' n
      obtain ⟨⟨rfl, hw⟩, _⟩ := e
      simp only [Lit.wf, Bool.and_eq_true, decide_eq_true_eq] at hw
      exact ⟨.int n, [.int k' n], wt ⟨n, rfl, hw.1, hw.2⟩, .cons (.int k' n) .nil, mkPV rfl ⟨n, rfl, rfl⟩⟩
    case string =>
      obtain ⟨v, rfl⟩ : ∃ v, cs = [v] := List.length_eq_one_iff.1 (beq_tt ht)
      cases v <;> simp at e
      rename_i s
      exact ⟨.str s, [.str s], wt ⟨s, rfl⟩, .cons (.str s) .nil, mkPV rfl ⟨s, rfl, rfl⟩⟩
    case slice et =>
      simp only [Bool.and_eq_true] at ht
      obtain ⟨⟨h1, h2⟩, h3⟩ := ht
      obtain ⟨v, rfl⟩ : ∃ v, cs = [v] := List.length_eq_one_iff.1 (beq_tt h1)
      obtain ⟨sz, hs, hpos⟩ : ∃ sz, sizeT P et = some sz ∧ 0 < sz := by
        split at h2
        · rename_i q hq; exact ⟨_, hq, by omega⟩
        · cases h2
      have hco : P.cellsOf et = sz := by simp [Program.cellsOf]; simp [sizeT] at hs; obtain ⟨i, hi, rfl⟩ := hs; simp [hi]
      cases v <;> simp at e
      rename_i a len cap
      cases a with
      | none =>
        cases len with
        | zero =>
          cases cap with
          | zero => exact ⟨.nil, [.nils], wt (.inl rfl), .cons .nils .nil, mkPV rfl ⟨_, sz, rfl, hs, hpos, .inl ⟨rfl, rfl⟩⟩⟩
          | succ c => simp at e
        | succ l => simp at e
      | some a =>
        simp only [Option.ite_none_right_eq_some] at e
        obtain ⟨⟨hlc, hcm⟩, e⟩ := e
        simp only [Option.bind_eq_some_iff, Option.map_eq_some_iff] at e
        obtain ⟨els, e1, rest, e2, e3⟩ := e
        rw [hco] at e1 e2
        obtain ⟨k1, k2⟩ := mapM_range e1
        obtain ⟨r1, r2⟩ := mapM_range e2
        -- an element that is there
        have hadd : ∀ n, (a.add n).block = a.block ∧ (a.add n).off = a.off + n := by
          intro n; unfold Addr.add; split
          · rename_i h; subst h; exact ⟨rfl, rfl⟩
          · exact ⟨rfl, rfl⟩
        have elem : ∀ (i : Nat) y, (w.cells? 0 (a.add (i * sz)) sz).bind (DataW.trod enc P w 0 (fun _ => true) held fuel et) = some y → a.add (i * sz) = ⟨a.block, a.off + i * sz, none⟩ ∧ ∃ x acs, WT P d et x ∧ acs.length = sz ∧ ICells noMu (memOf w) acs a.block (a.off + i * sz) ∧ PV P noH noB d et x acs := by
          intro i y hy
          simp only [Option.bind_eq_some_iff] at hy
          obtain ⟨ecs, c1, c2⟩ := hy
          simp only [World.cells?, Nat.zero_le, if_true] at c1
          obtain ⟨m1, m2⟩ := mapM_range c1
          have hsp : a.add (i * sz) = ⟨a.block, a.off + i * sz, none⟩ := by
            cases hec : ecs with
            | nil => rw [hec] at m1; simp at m1; omega
            | cons v0 ecs' =>
              have h0 := m2 0 v0 (by rw [hec]; rfl)
              have h0' : w.cell? (a.add (i * sz)) = some v0 := by
                have : (a.add (i * sz)).add 0 = a.add (i * sz) := by unfold Addr.add; simp
                rwa [this] at h0
              have := cell_spot h0'
              rw [(hadd _).1, (hadd _).2] at this
              exact this
          obtain ⟨x, acs, p1, p2, p3⟩ := ih (dd := y.1) (ps := y.2) h3 c2 (by rw [hs, m1])
          refine ⟨hsp, x, acs, p1, by rw [p2.length, m1], VRels.icells p2 fun k v hk => ?_, p3⟩
          have := m2 k v hk
          rw [hsp, add_add] at this
          exact this
        have rows : ∀ (l : List (DataW H × List MemPlace)) (j : Nat), (∀ i y, l[i]? = some y → (w.cells? 0 (a.add ((j + i) * sz)) sz).bind (DataW.trod enc P w 0 (fun _ => true) held fuel et) = some y) →
            ∃ xs acs, xs.length = l.length ∧ (∀ y ∈ xs, WT P d et y) ∧ PRow sz (PV P noH noB d et) xs acs ∧ ICells noMu (memOf w) acs a.block (a.off + j * sz) := by
          intro l
          induction l with
          | nil => intro j _; exact ⟨[], [], rfl, by simp, rfl, .nil⟩
          | cons y l ihl =>
            intro j hl
            obtain ⟨_, x, acs, p1, p2, p3, p4⟩ := elem j y (hl 0 y rfl)
            obtain ⟨xs, acs', q1, q2, q3, q4⟩ := ihl (j + 1) fun i z hz => by
              rw [show j + 1 + i = j + (i + 1) from by omega]; exact hl (i + 1) z (by simpa using hz)
            refine ⟨x :: xs, acs ++ acs', by simp [q1], ?_, ⟨acs, acs', rfl, p2, p4, q3⟩, ICells.append p3 ?_⟩
            · intro z hz
              rcases List.mem_cons.1 hz with rfl | hz
              · exact p1
              · exact q2 z hz
            · rw [p2, show a.off + j * sz + sz = a.off + (j + 1) * sz from by rw [Nat.succ_mul]; omega]; exact q4
        obtain ⟨xs, acs, q1, q2, q3, q4⟩ := rows els 0 fun i y hy => by rw [Nat.zero_add]; exact k2 i y hy
        rw [Nat.zero_mul, Nat.add_zero] at q4
        have hxl : xs.length = len := by rw [q1, k1]
        refine ⟨.list xs, [.vslice acs len sz], wt (.inr ⟨xs, rfl, by omega, q2⟩), .cons ?_ .nil, mkPV rfl ⟨_, sz, rfl, hs, hpos, .inr ⟨xs, rfl, .inr ⟨acs, [], by rw [hxl], by simpa using q3⟩⟩⟩⟩
        have spot : 0 < cap → a = ⟨a.block, a.off, none⟩ := by
          intro hc
          have key : ∀ y, (w.cells? 0 (a.add (0 * sz)) sz).bind (DataW.trod enc P w 0 (fun _ => true) held fuel et) = some y → a = ⟨a.block, a.off, none⟩ := by
            intro y hy
            have := (elem 0 y hy).1
            rw [Nat.zero_mul] at this
            have h0 : a.add 0 = a := by unfold Addr.add; simp
            rw [h0] at this
            simpa using this
          cases hels : els with
          | cons y els' => exact key y (k2 0 y (by rw [hels]; rfl))
          | nil =>
            rw [hels] at k1
            have hl0 : len = 0 := by simpa using k1.symm
            subst hl0
            cases hrest : rest with
            | nil => rw [hrest] at r1; simp at r1; omega
            | cons y rest' => exact key y (by have := r2 0 y (by rw [hrest]; rfl); simpa using this)
        by_cases hc : cap = 0
        · subst hc
          have : len = 0 := by omega
          subst this
          exact .vslice0
        · have hsp := spot (by omega)
          rw [hsp]
          exact .vslice q4 hlc
    case struct fields =>
      simp only [Bool.and_eq_true, decide_eq_true_eq, List.all_eq_true] at ht
      obtain ⟨h1, h2⟩ := ht
      have hco : P.cellsOf t = cs.length := by simp [Program.cellsOf]; simp [sizeT] at hsz; obtain ⟨i, hi, q⟩ := hsz; simp [hi, q]
      have e' : (if cs.length = P.cellsOf t then (fields.toList.mapM fun f => DataW.trod enc P w 0 (fun _ => true) held fuel f.type ((cs.drop f.offset).take (P.cellsOf f.type))).map (fun xs => ((DataW.agg (xs.map (·.1)) : DataW H), xs.flatMap (·.2))) else none) = some (dd, ps) := by
        cases cs with
        | nil => exact e
        | cons c cs => exact e
      rw [if_pos hco.symm] at e'
      simp only [Option.map_eq_some_iff] at e'
      obtain ⟨l, e1, _⟩ := e'
      have key : ∀ (fs : List Field) (pos : Nat) (l : List (DataW H × List MemPlace)), (∀ f ∈ fs, tyOk P d f.type = true) → tight P fs pos = some cs.length → (fs.mapM fun f => DataW.trod enc P w 0 (fun _ => true) held fuel f.type ((cs.drop f.offset).take (P.cellsOf f.type))) = some l →
          ∃ xs acs, xs.length = fs.length ∧ (∀ (i : Nat) f y, fs[i]? = some f → xs[i]? = some y → WT P d f.type y) ∧ VRels noMu (memOf w) acs (cs.drop pos) ∧ PFl P (PV P noH noB d) fs pos xs acs ∧ pos ≤ cs.length := by
        intro fs
        induction fs with
        | nil =>
          intro pos l _ hp _
          simp [tight] at hp
          subst hp
          exact ⟨[], [], rfl, by simp, by rw [List.drop_length]; exact .nil, ⟨rfl, rfl⟩, Nat.le_refl _⟩
        | cons f fs ihf =>
          intro pos l hf hp hl
          unfold tight at hp
          split at hp
          · rename_i s hs
            obtain ⟨ho, hp⟩ := cond_ok hp
            have ho := beq_tt ho
            rw [List.mapM_cons] at hl
            simp only [Option.bind_eq_bind, Option.bind_eq_some_iff, Option.pure_def, Option.some.injEq] at hl
            obtain ⟨y, y1, r, y2, _⟩ := hl
            obtain ⟨xs, acs, q1, q2, q3, q4, q5⟩ := ihf (pos + s) r (fun g hg => hf g (by simp [hg])) hp y2
            have hcf : P.cellsOf f.type = s := by simp [Program.cellsOf]; simp [sizeT] at hs; obtain ⟨i, hi, q⟩ := hs; simp [hi, q]
            rw [hcf, ho] at y1
            have hlen : ((cs.drop pos).take s).length = s := by simp; omega
            obtain ⟨x, bcs, p1, p2, p3⟩ := ih (dd := y.1) (ps := y.2) (hf f (by simp)) y1 (by rw [hs, hlen])
            have hb : bcs.length = s := by rw [p2.length, hlen]
            refine ⟨x :: xs, bcs ++ acs, by simp [q1], ?_, ?_, ⟨x, xs, bcs, acs, rfl, rfl, ho, p3, by rw [hb]; exact q4⟩, by omega⟩
            · intro i g z hg hz
              cases i with
              | zero => simp at hg hz; subst hg; subst hz; exact p1
              | succ i => exact q2 i g z (by simpa using hg) (by simpa using hz)
            · have := p2.append q3
              rw [← List.drop_drop, List.take_append_drop] at this
              exact this
          · cases hp
      obtain ⟨xs, acs, q1, q2, q3, q4, _⟩ := key fields.toList 0 l h2 h1 e1
      rw [List.drop_zero] at q3
      exact ⟨.list xs, acs, wt ⟨xs, rfl, q1, q2⟩, q3, mkPV q3.length ⟨xs, rfl, q4⟩⟩
    case array n et =>
      split at ht
      · rename_i s hs
        simp only [Bool.and_eq_true] at ht
        obtain ⟨h1, h2⟩ := ht
        have h1 := beq_tt h1
        have hco : P.cellsOf t = cs.length := by simp [Program.cellsOf]; simp [sizeT] at hsz; obtain ⟨i, hi, q⟩ := hsz; simp [hi, q]
        have hce : P.cellsOf et = s := by simp [Program.cellsOf]; simp [sizeT] at hs; obtain ⟨i, hi, q⟩ := hs; simp [hi, q]
        have e' : (if cs.length = P.cellsOf t then ((List.range n).mapM fun i => DataW.trod enc P w 0 (fun _ => true) held fuel et ((cs.drop (i * P.cellsOf et)).take (P.cellsOf et))).map (fun xs => ((DataW.agg (xs.map (·.1)) : DataW H), xs.flatMap (·.2))) else none) = some (dd, ps) := by
          cases cs with
          | nil => exact e
          | cons c cs => exact e
        rw [if_pos hco.symm, hce] at e'
        simp only [Option.map_eq_some_iff] at e'
        obtain ⟨l, e1, _⟩ := e'
        obtain ⟨k1, k2⟩ := mapM_range e1
        have key : ∀ (m j : Nat), j + m = n → ∃ xs acs, xs.length = m ∧ (∀ y ∈ xs, WT P d et y) ∧ VRels noMu (memOf w) acs (cs.drop (j * s)) ∧ PRow s (PV P noH noB d et) xs acs := by
          intro m
          induction m with
          | zero =>
            intro j hj
            have : j = n := by omega
            subst this
            exact ⟨[], [], rfl, by simp, by rw [List.drop_eq_nil_of_le (by omega)]; exact .nil, rfl⟩
          | succ m ihm =>
            intro j hj
            obtain ⟨xs, acs, q1, q2, q3, q4⟩ := ihm (j + 1) (by omega)
            have hjl : j < l.length := by omega
            have y1 := k2 j l[j] (by simp [hjl])
            have hle : (j + 1) * s ≤ n * s := Nat.mul_le_mul_right _ (by omega)
            have hlen : ((cs.drop (j * s)).take s).length = s := by
              rw [Nat.succ_mul] at hle
              simp; omega
            obtain ⟨x, bcs, p1, p2, p3⟩ := ih (dd := l[j].1) (ps := l[j].2) h2 y1 (by rw [hs, hlen])
            refine ⟨x :: xs, bcs ++ acs, by simp [q1], ?_, ?_, ⟨bcs, acs, rfl, by rw [p2.length, hlen], p3, q4⟩⟩
            · intro z hz
              rcases List.mem_cons.1 hz with rfl | hz
              · exact p1
              · exact q2 z hz
            · have := p2.append q3
              rw [Nat.succ_mul, ← List.drop_drop, List.take_append_drop] at this
              exact this
        obtain ⟨xs, acs, q1, q2, q3, q4⟩ := key n 0 (by omega)
        rw [Nat.zero_mul, List.drop_zero] at q3
        exact ⟨.list xs, acs, wt ⟨xs, rfl, q1, q2⟩, q3, mkPV q3.length ⟨xs, s, rfl, q1, hs, q4⟩⟩
      · cases ht

theorem arg_rel {t : TypeId} {v : Value} {dd : DataW H} {ps : List MemPlace} (ht : tyOk P deep t = true) (hv : Value.okWide P w .any 0 t v) (e : DataW.Trod enc P w 0 (fun _ => true) held t v dd ps) :
    ∃ x a, WT P deep t x ∧ VRel noMu (memOf w) a v ∧ PVal P noH noB t x a := by
  obtain ⟨fuel, e⟩ := e
  have hag : (isAggT P t = some true ∧ ∃ cs, v = .agg cs ∧ cs.size = P.cellsOf t) ∨ (isAggT P t = some false ∧ v.cells.toList = [v] ∧ sizeT P t = some 1) := by
    unfold tyOk deep at ht
    simp only at ht
    cases hs : sizeT P t with
    | none => rw [hs] at ht; cases ht
    | some n =>
      rw [hs] at ht
      simp only at ht
      cases hu : P.underlying t with
      | none => rw [hu] at ht; cases ht
      | some td =>
        rw [hu] at ht
        cases td <;> simp only at ht <;> first | (cases ht; done) | skip
        case bool =>
          have := beq_tt ht; subst this
          obtain ⟨b, rfl⟩ := Go.WideShapes.okWide_bool hu hv
          exact .inr ⟨by simp [isAggT, hu], rfl, rfl⟩
        case int k =>
          have := beq_tt ht; subst this
          obtain ⟨b, rfl⟩ := Go.WideShapes.okWide_int hu hv
          exact .inr ⟨by simp [isAggT, hu], rfl, rfl⟩
        case string =>
          have := beq_tt ht; subst this
          obtain ⟨b, rfl⟩ := Go.WideShapes.okWide_string hu hv
          exact .inr ⟨by simp [isAggT, hu], rfl, rfl⟩
        case slice et =>
          simp only [Bool.and_eq_true] at ht
          have := beq_tt ht.1.1; subst this
          obtain ⟨a, l, c, rfl⟩ := Go.WideShapes.okWide_slice hu hv
          exact .inr ⟨by simp [isAggT, hu], rfl, rfl⟩
        case struct fields =>
          obtain ⟨cs, h1, h2⟩ := Go.WideShapes.okWide_struct hu hv
          exact .inl ⟨by simp [isAggT, hu], cs, h1, h2⟩
        case array m et =>
          have hv' := hv
          unfold Value.okWide at hv'
          rw [hu] at hv'
          obtain ⟨cs, h1, h2, _⟩ := hv'
          exact .inl ⟨by simp [isAggT, hu], cs, h1, h2⟩
  rcases hag with ⟨h1, cs, rfl, h2⟩ | ⟨h1, h2, h3⟩
  · have hsz : sizeT P t = some cs.toList.length := by
      cases hs : sizeT P t with
      | none => unfold tyOk deep at ht; simp only at ht; rw [hs] at ht; cases ht
      | some n =>
        simp [sizeT] at hs
        obtain ⟨i, hi, q⟩ := hs
        simp [Program.cellsOf, hi, q] at h2
        simp [h2]
    obtain ⟨x, acs, p1, p2, p3⟩ := trod_rel ht e hsz
    exact ⟨x, .agg acs, p1, .agg p2, acs, p3, .inl ⟨h1, rfl⟩⟩
  · rw [h2] at e
    obtain ⟨x, acs, p1, p2, p3⟩ := trod_rel ht e (by rw [h3]; rfl)
    cases p2 with
    | cons g1 g2 =>
      cases g2
      exact ⟨x, _, p1, g1, _, p3, .inr ⟨h1, rfl⟩⟩
theorem args_rel : ∀ {ts : List TypeId} {vs : List Value} {ds : List (DataW H)} {ps : List MemPlace}, ts.all (tyOk P deep) = true → (∀ (j : Nat) t v, ts[j]? = some t → vs[j]? = some v → Value.okWide P w .any 0 t v) → DataW.TrodAll enc P w 0 (fun _ => true) held ts vs ds ps →
    ∃ xs as_, WTs P ts xs ∧ VRels noMu (memOf w) as_ vs ∧ ArgsR P noH noB ts xs as_
  | [], [], [], ps, _, _, _ => ⟨[], [], .nil, .nil, .nil⟩
  | t :: ts, v :: vs, d :: ds, ps, ht, hv, e => by
    obtain ⟨p, q, e1, e2, _⟩ := e
    simp only [List.all_cons, Bool.and_eq_true] at ht
    obtain ⟨x, a, h1, h2, h3⟩ := arg_rel ht.1 (hv 0 t v rfl rfl) e1
    obtain ⟨xs, as_, k1, k2, k3⟩ := args_rel ht.2 (fun j t v ht hv' => hv (j + 1) t v (by simpa using ht) (by simpa using hv')) e2
    exact ⟨x :: xs, a :: as_, .cons h1 k1, .cons h2 k2, .cons h3 k3⟩
  | [], _ :: _, _, _, _, _, e => e.elim
  | [], [], _ :: _, _, _, _, e => e.elim
  | _ :: _, [], _, _, _, _, e => e.elim
  | _ :: _, _ :: _, [], _, _, _, e => e.elim

/-- A law that returns true for all values is the model's call that does, in every world. -/
theorem law_calls {f : FuncId} {fn : Func} (hfn : P.funcs[f]? = some fn) (hF : ∀ xs, WTs P fn.params.toList xs → Fn P f xs (.bool true)) (ht : fn.params.toList.all (tyOk P deep) = true)
    (hr : (match fn.resultTypes.toList with | [rt] => (match P.underlying rt with | some .bool => true | _ => false) | _ => false) = true)
    {args : Array Value} {ds : List (DataW H)} {ps : List MemPlace} (hval : ∀ (j : Nat) t v, fn.params[j]? = some t → args[j]? = some v → Value.okWide P w .any 0 t v) (hA : DataW.TrodAll enc P w 0 (fun _ => true) held fn.params.toList args.toList ds ps) :
    Calls P f args w fun e w' => e = .returned (.bool true) ∧ Below w.heap.size w w' := by
  obtain ⟨xs, as_, h1, h2, h3⟩ := args_rel ht (fun j t v h k => hval j t v (by simpa using h) (by simpa using k)) hA
  obtain ⟨g, g1, hg⟩ := hF xs h1 noH noB as_ fn hfn (fun c hc => hc.elim) (fun c hc => by simp [noH, Heap.get, Tr.get_nil]) h3
  obtain ⟨gE, h', us, k1, k2, k3, k4, k5, k6, k7, k8, k9, k10⟩ := hg []
  have hu : us = [.bool true] := by
    split at hr
    · rename_i rt hrt
      rw [hrt] at k4
      obtain ⟨u, rfl, cs, p1, p2⟩ := k4
      split at hr
      · rename_i hu
        obtain ⟨_, p1⟩ := p1
        rw [hu] at p1
        obtain ⟨b, q1, q2⟩ := p1
        cases q1
        subst q2
        rcases p2 with ⟨p2, _⟩ | ⟨_, p2⟩
        · simp [isAggT, hu] at p2
        · simp at p2; rw [← p2]
      · cases hr
    · cases hr
  subst hu
  have hd : done P f ⟨gE, [], h'⟩ = some (.bool true) := by
    unfold done
    simp only [k6, k7, k5, k8, hfn, k9]
    simp
  refine (calls_of_leads (I := memOf w) (args := as_) (m0 := ⟨g, [], noH⟩) (by simp [begin_, g1, noH]) k10 hd w (fun B o v e => e) h2).mono fun e w' ⟨μ, u, he, hu, hb⟩ => ?_
  subst he
  cases hu
  exact ⟨rfl, hb⟩
end
end Go.Sym
/- Numbers as lists of digits to the base 10000. -/
namespace Go.Sym
set_option linter.unusedVariables false

def val : List Nat → Nat
  | [] => 0
  | d :: l => d + 10000 * val l
def dgF : Nat → Nat → List Nat
  | 0, _ => []
  | f + 1, n => if n = 0 then [] else n % 10000 :: dgF f (n / 10000)
def dg (n : Nat) : List Nat := dgF n n
def Ok (l : List Nat) : Prop := ∀ d ∈ l, d < 10000
theorem dgF_more : ∀ (f g n : Nat), n ≤ f → n ≤ g → dgF f n = dgF g n
  | 0, g, n, h, _ => by
    have : n = 0 := by omega
    subst this
    cases g <;> simp [dgF]
  | f + 1, 0, n, _, h => by
    have : n = 0 := by omega
    subst this; simp [dgF]
  | f + 1, g + 1, n, h1, h2 => by
    unfold dgF
    by_cases h0 : n = 0
    · simp [h0]
    · rw [if_neg h0, if_neg h0, dgF_more f g (n / 10000) (by omega) (by omega)]
theorem dg_zero : dg 0 = [] := rfl
theorem dg_pos {n : Nat} (h : n ≠ 0) : dg n = n % 10000 :: dg (n / 10000) := by
  unfold dg
  obtain ⟨m, rfl⟩ : ∃ m, n = m + 1 := ⟨n - 1, by omega⟩
  conv => lhs; unfold dgF
  rw [if_neg h, dgF_more m ((m + 1) / 10000) _ (by omega) (by omega)]
theorem val_dg (n : Nat) : val (dg n) = n := by
  induction n using Nat.strongRecOn with
  | _ n ih =>
    by_cases h : n = 0
    · subst h; rfl
    · rw [dg_pos h]
      simp only [val, ih (n / 10000) (by omega)]
      omega
theorem ok_dg (n : Nat) : Ok (dg n) := by
  induction n using Nat.strongRecOn with
  | _ n ih =>
    by_cases h : n = 0
    · subst h; intro d hd; simp [dg_zero] at hd
    · rw [dg_pos h]
      intro d hd
      rcases List.mem_cons.1 hd with rfl | hd
      · omega
      · exact ih (n / 10000) (by omega) d hd
theorem dg_val : ∀ (l : List Nat), Ok l → (∀ h : l ≠ [], l.getLast h ≠ 0) → dg (val l) = l
  | [], _, _ => rfl
  | d :: l, ho, hl => by
    have hd : d < 10000 := ho d (by simp)
    have ho' : Ok l := fun x hx => ho x (by simp [hx])
    by_cases hn : l = []
    · subst hn
      have : d ≠ 0 := hl (by simp)
      rw [dg_pos (by simp [val]; omega)]
      simp only [val]
      rw [show (d + 10000 * 0) % 10000 = d from by omega, show (d + 10000 * 0) / 10000 = 0 from by omega]
      rfl
    · have ih := dg_val l ho' (fun h => by have := hl (by simp); rwa [List.getLast_cons hn] at this)
      have hv : val l ≠ 0 := by
        intro h0
        rw [h0] at ih
        exact hn ih.symm
      rw [dg_pos (by simp only [val]; omega)]
      simp only [val]
      rw [show (d + 10000 * val l) % 10000 = d from by omega, show (d + 10000 * val l) / 10000 = val l from by omega, ih]
def pw (i : Nat) : Nat := 10000 ^ i
theorem pw_zero : pw 0 = 1 := rfl
theorem pw_succ (i : Nat) : pw (i + 1) = 10000 * pw i := by unfold pw; rw [Nat.pow_succ, Nat.mul_comm]
theorem pw_add (i j : Nat) : pw (i + j) = pw i * pw j := by unfold pw; rw [Nat.pow_add]
theorem pw_pos (i : Nat) : 0 < pw i := Nat.pow_pos (by omega)
theorem div_pw (m i : Nat) : m / pw (i + 1) = m / pw i / 10000 := by rw [Nat.div_div_eq_div_mul, pw_succ, Nat.mul_comm]
theorem val_append (a b : List Nat) : val (a ++ b) = val a + pw a.length * val b := by
  induction a with
  | nil => simp [val, pw_zero]
  | cons d a ih => simp only [List.cons_append, val, ih, List.length_cons, pw_succ]; rw [Nat.mul_add, ← Nat.mul_assoc]; omega
theorem val_lt : ∀ {l : List Nat}, Ok l → val l < pw l.length
  | [], _ => by simp [val, pw_zero]
  | d :: l, h => by
    have := val_lt (l := l) (fun x hx => h x (by simp [hx]))
    have hd := h d (by simp)
    simp only [val, List.length_cons, pw_succ]
    omega
theorem dg_len {n k : Nat} (h : n < pw k) : (dg n).length ≤ k := by
  induction k generalizing n with
  | zero => have : n = 0 := by rw [pw_zero] at h; omega
            subst this; simp [dg_zero]
  | succ k ih =>
    by_cases h0 : n = 0
    · subst h0; simp [dg_zero]
    · rw [dg_pos h0]
      have := ih (n := n / 10000) (by rw [pw_succ] at h; omega)
      simp; omega

/-- A slice of digits. -/
def Ints (a : V) (l : List Nat) : Prop := a.els = l.map fun d => V.int (Int.ofNat d)
theorem Ints.len {a : V} {l : List Nat} (h : Ints a l) : a.len = l.length := by unfold Ints at h; simp [V.len, h]
theorem Ints.get {a : V} {l : List Nat} (h : Ints a l) {i d : Nat} (hd : l[i]? = some d) : (a.get (i : Int)).toI = d := by
  unfold Ints at h; simp [V.get, h, hd, V.toI]
theorem Ints.snoc {a : V} {l : List Nat} (h : Ints a l) (d : Nat) : Ints (a.snoc (.int d)) (l ++ [d]) := by
  unfold Ints at *; simp [V.snoc, h, show ∀ l, (V.list l).els = l from fun _ => rfl]
theorem Ints.set {a : V} {l : List Nat} (h : Ints a l) (i d : Nat) : Ints (a.set (i : Int) (.int d)) (l.set i d) := by
  unfold Ints at *; simp [V.set, h, show ∀ l, (V.list l).els = l from fun _ => rfl, List.map_set]
theorem Ints.rep (n : Nat) (d : Nat) : Ints (V.rep n (.int d)) (List.replicate n d) := by
  unfold Ints; simp [V.rep, show ∀ l, (V.list l).els = l from fun _ => rfl]
theorem Ints.app {a b : V} {l k : List Nat} (h : Ints a l) (g : Ints b k) : Ints (a.app b) (l ++ k) := by
  unfold Ints at *
  unfold V.app
  split <;> simp_all [V.els]
theorem Ints.sub {a : V} {l : List Nat} (h : Ints a l) {i j : Nat} (hij : i ≤ j) (hj : j ≤ l.length) : Ints (a.sub (i : Int) (j : Int)) ((l.take j).drop i) := by
  unfold Ints at *
  unfold V.sub
  split <;> simp_all [V.els]
theorem ints_nil : Ints .nil [] := rfl
theorem ints_emp : Ints (.list []) [] := rfl
theorem maxI_abs (a : Int) : maxI a (-a) = a.natAbs := by unfold maxI; split <;> omega
theorem dg_get (m i : Nat) : (dg m)[i]? = if m / pw i = 0 then none else some (m / pw i % 10000) := by
  induction i generalizing m with
  | zero =>
    by_cases h : m = 0
    · subst h; simp [dg_zero]
    · rw [dg_pos h, pw_zero]; simp [h]
  | succ i ih =>
    by_cases h : m = 0
    · subst h; simp [dg_zero]
    · rw [dg_pos h, List.getElem?_cons_succ, ih, Nat.div_div_eq_div_mul, pw_succ, Nat.mul_comm]
theorem dg_lt (m i : Nat) : i < (dg m).length ↔ m / pw i ≠ 0 := by
  have := dg_get m i
  constructor
  · intro h q
    rw [if_pos q] at this
    rw [List.getElem?_eq_none_iff] at this; omega
  · intro h
    rw [if_neg h] at this
    exact (List.getElem?_eq_some_iff.1 this).1
theorem val_set {l : List Nat} {i d0 : Nat} (h : l[i]? = some d0) (d : Nat) : val (l.set i d) + d0 * pw i = val l + d * pw i := by
  induction l generalizing i with
  | nil => simp at h
  | cons x l ih =>
    cases i with
    | zero => simp at h; subst h; simp [val, pw_zero]; omega
    | succ i =>
      simp only [List.getElem?_cons_succ] at h
      have := ih h
      simp only [List.set_cons_succ, val, pw_succ]
      rw [Nat.mul_left_comm, Nat.mul_left_comm d]; omega
theorem Ok.set {l : List Nat} (h : Ok l) (i d : Nat) (hd : d < 10000) : Ok (l.set i d) := by
  intro x hx
  rcases List.mem_or_eq_of_mem_set hx with q | q
  · exact h x q
  · omega
theorem Ok.app {l k : List Nat} (h : Ok l) (g : Ok k) : Ok (l ++ k) := by
  intro x hx
  rcases List.mem_append.1 hx with q | q
  · exact h x q
  · exact g x q
theorem val_rep (n : Nat) : val (List.replicate n 0) = 0 := by
  induction n with
  | zero => rfl
  | succ n ih => simp [List.replicate_succ, val, ih]
theorem val_take_succ (l : List Nat) (j d : Nat) (h : l[j]? = some d) : val (l.take (j + 1)) = val (l.take j) + pw j * d := by
  obtain ⟨h1, h2⟩ := List.getElem?_eq_some_iff.1 h
  rw [List.take_add_one, h, val_append]
  simp [val]
  congr 2
  omega
theorem dg_drop (m i : Nat) : (dg m).drop i = dg (m / pw i) := by
  induction i generalizing m with
  | zero => simp [pw_zero]
  | succ i ih =>
    by_cases h : m = 0
    · subst h; simp [dg_zero]
    · rw [dg_pos h, List.drop_succ_cons, ih, Nat.div_div_eq_div_mul, pw_succ, Nat.mul_comm]
end Go.Sym
namespace X
open Go Go.Abs Go.Sym
set_option linter.unusedVariables false
theorem plain0 : (prog.funcs.toList.all fun fn => !(fn.name == "runtime.NumGoroutine")) = true := by kernel_rfl
theorem progOk : Go.Abs.ProgOk prog := ⟨by kernel_rfl, fun f fn e => by
  have h := plain0
  simp only [List.all_eq_true, Bool.not_eq_true'] at h
  exact h fn (Array.mem_toList_iff.2 (Array.mem_of_getElem? e))⟩

theorem gcd_loop (v : List V) (hv : v.length = 2) : ∀ (n a b : Nat), a ≤ n → Comes frac_gcd.K frac_gcd.f frac_gcd.s1 ⟨[a, b], [], v⟩ (.int (Nat.gcd a b)) := by
  obtain ⟨x, y, rfl⟩ : ∃ x y, v = [x, y] := by
    match v, hv with
    | [x, y], _ => exact ⟨x, y, rfl⟩
  intro n
  induction n with
  | zero =>
    intro a b h
    have : a = 0 := by omega
    subst this
    refine Comes.last progOk frac_gcd.p2 [] ⟨rfl, trivial⟩ ?_
    simp [E.v, E.i, Env.ext]
  | succ n ih =>
    intro a b h
    by_cases h0 : a = 0
    · subst h0
      refine Comes.last progOk frac_gcd.p2 [] ⟨rfl, trivial⟩ ?_
      simp [E.v, E.i, Env.ext]
    · refine Comes.step progOk frac_gcd.p1 [] ?_ ?_
      · simp [EvOk, E.b, E.i, Env.ext, ltB_iff, eqB_not]; omega
      · have := ih (b % a) a (by have := Nat.mod_lt b (Nat.pos_of_ne_zero h0); omega)
        rw [Nat.gcd_rec]
        exact this
theorem gcd_spec (a b : Nat) : Fn prog frac_gcd.f [.int a, .int b] (.int (Nat.gcd a b)) := by
  refine Fn.of (C := frac_gcd.K) frac_gcd.b ?_
  refine Comes.step progOk frac_gcd.p0 [] trivial ?_
  exact gcd_loop [.int a, .int b] rfl a a b (Nat.le_refl _)
end X
/- Contracts of the reference's numbers. -/
namespace X
open Go Go.Abs Go.Sym
set_option linter.unusedVariables false
set_option linter.unusedSimpArgs false


theorem digits_loop : ∀ (m : Nat) (n : Int) (x out : V) (l : List Nat), n.natAbs = m → -9223372036854775808 ≤ n → n ≤ 9223372036854775807 → Ints out l → l.length + (dg m).length ≤ 8796093021696 → ∃ r, Ints r (l ++ dg m) ∧ Comes ref01_digits.K ref01_digits.f ref01_digits.s1 ⟨[n], [], [x, out]⟩ r := by
  intro m
  induction m using Nat.strongRecOn with
  | _ m ih =>
    intro n x out l hm h1 h2 ho hl
    by_cases h0 : n = 0
    · subst h0
      have : m = 0 := by omega
      subst this
      refine ⟨out, by simpa [dg_zero] using ho, Comes.last progOk ref01_digits.p2 [] ?_ ?_⟩
      · simp [EvOk, E.b, E.i, E.v, Env.ext, Sub.ev, ltB_iff, leB_iff, eqB_iff, eqB_not, ltB_not, leB_not]
      · simp [EvOk, E.b, E.i, E.v, Env.ext, Sub.ev, ltB_iff, leB_iff, eqB_iff, eqB_not, ltB_not, leB_not]
    · have hmp : m ≠ 0 := by omega
      have hd : (dg m).length = (dg (m / 10000)).length + 1 := by rw [dg_pos hmp]; simp
      have hq : (n.tdiv 10000).natAbs = m / 10000 := by rw [Int.natAbs_tdiv, hm]; rfl
      have hr : (n.tmod 10000).natAbs = m % 10000 := by rw [Int.natAbs_tmod, hm]; rfl
      have ho' : Ints (out.snoc (.int (maxI (n.tmod 10000) (0-n.tmod 10000)))) (l ++ [m % 10000]) := by
        rw [show 0 - n.tmod 10000 = -n.tmod 10000 from by omega, maxI_abs, hr]; exact ho.snoc _
      obtain ⟨r, r1, r2⟩ := ih (m / 10000) (by omega) (n.tdiv 10000) x _ _ hq (by omega) (by omega) ho' (by simp; omega)
      refine ⟨r, ?_, Comes.step progOk ref01_digits.p1 [] ?_ r2⟩
      · rw [dg_pos hmp]; simpa using r1
      · have := ho.len
        simp [EvOk, E.b, E.i, E.v, Env.ext, Sub.ev, ltB_iff, leB_iff, eqB_iff, eqB_not, ltB_not, leB_not]
        omega
theorem digits_spec (n : Int) (h1 : -9223372036854775808 ≤ n) (h2 : n ≤ 9223372036854775807) : ∃ r, Ints r (dg n.natAbs) ∧ Fn prog ref01_digits.f [.int n] r := by
  have hl : (dg n.natAbs).length ≤ 5 := dg_len (by unfold pw; omega)
  obtain ⟨r, r1, r2⟩ := digits_loop n.natAbs n (.int n) .nil [] rfl h1 h2 ints_nil (by simp; omega)
  refine ⟨r, r1, Fn.of (C := ref01_digits.K) ref01_digits.b ?_⟩
  exact Comes.step progOk ref01_digits.p0 [] trivial r2

theorem cut_loop : ∀ (n : Nat) (x a : V) (l : List Nat), l.length = n → Ints a l → Ok l → n ≤ 8796093021696 → ∃ r, Ints r (dg (val l)) ∧ Comes ref01_cut.K ref01_cut.f ref01_cut.s1 ⟨[], [], [x, a]⟩ r := by
  intro n
  induction n with
  | zero =>
    intro x a l hl ha ho hn
    have : l = [] := List.length_eq_zero_iff.1 hl
    subst this
    refine ⟨a, ha, Comes.last progOk ref01_cut.p3 [] ?_ ?_⟩
    · have := ha.len
      simp [EvOk, E.b, E.i, E.v, Env.ext, Sub.ev, ltB_iff, leB_iff, eqB_iff, eqB_not, ltB_not, leB_not]; omega
    · simp [EvOk, E.b, E.i, E.v, Env.ext, Sub.ev, ltB_iff, leB_iff, eqB_iff, eqB_not, ltB_not, leB_not]
  | succ n ih =>
    intro x a l hl ha ho hn
    have hlen := ha.len
    obtain ⟨k, d, rfl⟩ : ∃ k d, l = k ++ [d] := by
      have : l ≠ [] := by intro q; subst q; simp at hl
      exact ⟨l.dropLast, l.getLast this, (List.dropLast_concat_getLast this).symm⟩
    have hk : k.length = n := by simpa using hl
    have hg : (a.get (a.len - 1)).toI = d := by
      rw [hlen]
      have := ha.get (i := n) (d := d) (by simp [← hk])
      rw [← this]; congr 2; simp; omega
    have hok : Ok k := fun x hx => ho x (by simp [hx])
    by_cases h0 : d = 0
    · subst h0
      have hs : Ints (a.sub 0 (a.len - 1)) k := by
        have := ha.sub (i := 0) (j := n) (by omega) (by simp; omega)
        rw [List.take_left' hk] at this
        rw [hlen]
        simpa [hk] using this
      obtain ⟨r, r1, r2⟩ := ih x (a.sub 0 (a.len - 1)) k hk hs hok (by omega)
      refine ⟨r, ?_, Comes.step progOk ref01_cut.p1 [] ?_ r2⟩
      · rw [val_append]; simpa [val] using r1
      · simp [EvOk, E.b, E.i, E.v, Env.ext, Sub.ev, ltB_iff, leB_iff, eqB_iff, eqB_not, ltB_not, leB_not]; simp [hg]; simp at hlen; omega
    · refine ⟨a, ?_, Comes.last progOk ref01_cut.p2 [] ?_ ?_⟩
      · rw [dg_val _ ho (by simp [h0])]; exact ha
      · simp [EvOk, E.b, E.i, E.v, Env.ext, Sub.ev, ltB_iff, leB_iff, eqB_iff, eqB_not, ltB_not, leB_not]; simp [hg]; simp at hlen; omega
      · simp [EvOk, E.b, E.i, E.v, Env.ext, Sub.ev, ltB_iff, leB_iff, eqB_iff, eqB_not, ltB_not, leB_not]
theorem cut_spec {a : V} {l : List Nat} (ha : Ints a l) (ho : Ok l) (hn : l.length ≤ 8796093021696) : ∃ r, Ints r (dg (val l)) ∧ Fn prog ref01_cut.f [a] r := by
  obtain ⟨r, r1, r2⟩ := cut_loop l.length a a l rfl ha ho hn
  refine ⟨r, r1, Fn.of (C := ref01_cut.K) ref01_cut.b ?_⟩
  exact Comes.step progOk ref01_cut.p0 [] trivial r2

def cmpN (m n : Nat) : Int := if m < n then -1 else if n < m then 1 else 0
theorem compare_loop {a b : V} {l k : List Nat} (ha : Ints a l) (hb : Ints b k) (hl : Ok l) (hk : Ok k) (he : l.length = k.length) (hn : l.length ≤ 8796093021696) : ∀ (j : Nat) (i : Int), i = (j : Int) - 1 → j ≤ l.length → Comes ref01_compare.K ref01_compare.f ref01_compare.s1 ⟨[i], [], [a, b]⟩ (.int (cmpN (val (l.take j)) (val (k.take j)))) := by
  have la := ha.len
  have lb := hb.len
  intro j
  induction j with
  | zero =>
    intro i hi hj
    subst hi
    refine Comes.last progOk ref01_compare.p6 [] ?_ ?_
    · simp [EvOk, E.b, E.i, E.v, Env.ext, Sub.ev, ltB_iff, leB_iff, eqB_iff, eqB_not, ltB_not, leB_not]
    · simp [EvOk, E.b, E.i, E.v, Env.ext, Sub.ev, ltB_iff, leB_iff, eqB_iff, eqB_not, ltB_not, leB_not]; simp [cmpN, val]
  | succ j ih =>
    intro i hi hj
    obtain ⟨d, hd⟩ : ∃ d, l[j]? = some d := ⟨l[j], List.getElem?_eq_getElem (by omega)⟩
    obtain ⟨e, hee⟩ : ∃ d, k[j]? = some d := ⟨k[j], List.getElem?_eq_getElem (by omega)⟩
    have hi' : i = (j : Int) := by omega
    subst hi'
    have ga := ha.get hd
    have gb := hb.get hee
    have v1 := val_take_succ l j d hd
    have v2 := val_take_succ k j e hee
    have b1 : val (l.take j) < pw j := by
      have := val_lt (l := l.take j) (fun x hx => hl x (List.mem_of_mem_take hx))
      rwa [List.length_take, Nat.min_eq_left (by omega)] at this
    have b2 : val (k.take j) < pw j := by
      have := val_lt (l := k.take j) (fun x hx => hk x (List.mem_of_mem_take hx))
      rwa [List.length_take, Nat.min_eq_left (by omega)] at this
    rcases Nat.lt_trichotomy d e with q | q | q
    · have hv : val (l.take (j + 1)) < val (k.take (j + 1)) := by
        have := Nat.mul_le_mul_left (pw j) (show d + 1 ≤ e from q)
        rw [Nat.mul_add] at this; omega
      refine Comes.last progOk ref01_compare.p3 [] ?_ ?_
      · simp [EvOk, E.b, E.i, E.v, Env.ext, Sub.ev, ltB_iff, leB_iff, eqB_iff, eqB_not, ltB_not, leB_not]; rw [ga, gb]; omega
      · simp [EvOk, E.b, E.i, E.v, Env.ext, Sub.ev, ltB_iff, leB_iff, eqB_iff, eqB_not, ltB_not, leB_not]; simp [cmpN, hv]
    · subst q
      have hv : cmpN (val (l.take (j + 1))) (val (k.take (j + 1))) = cmpN (val (l.take j)) (val (k.take j)) := by
        unfold cmpN
        rw [v1, v2]
        split <;> split <;> (try split) <;> (try split) <;> omega
      rw [hv]
      refine Comes.step progOk ref01_compare.p5 [] ?_ (ih ((j : Int) - 1) rfl (by omega))
      simp [EvOk, E.b, E.i, E.v, Env.ext, Sub.ev, ltB_iff, leB_iff, eqB_iff, eqB_not, ltB_not, leB_not]; rw [ga, gb]; omega
    · have hv : val (k.take (j + 1)) < val (l.take (j + 1)) := by
        have := Nat.mul_le_mul_left (pw j) (show e + 1 ≤ d from q)
        rw [Nat.mul_add] at this; omega
      refine Comes.last progOk ref01_compare.p4 [] ?_ ?_
      · simp [EvOk, E.b, E.i, E.v, Env.ext, Sub.ev, ltB_iff, leB_iff, eqB_iff, eqB_not, ltB_not, leB_not]; rw [ga, gb]; omega
      · simp [EvOk, E.b, E.i, E.v, Env.ext, Sub.ev, ltB_iff, leB_iff, eqB_iff, eqB_not, ltB_not, leB_not]; simp [cmpN, hv]; omega
theorem dg_len_lt {m n : Nat} (h : (dg m).length < (dg n).length) : m < n := by
  have h1 := (dg_lt n (dg m).length).1 h
  have h2 := val_lt (ok_dg m)
  rw [val_dg] at h2
  have := Nat.div_mul_le_self n (pw (dg m).length)
  have h3 : 1 ≤ n / pw (dg m).length := Nat.pos_of_ne_zero h1
  have := Nat.mul_le_mul_right (pw (dg m).length) h3
  omega
theorem compare_spec {a b : V} {m n : Nat} (ha : Ints a (dg m)) (hb : Ints b (dg n)) (hm : (dg m).length ≤ 8796093021696) : Fn prog ref01_compare.f [a, b] (.int (cmpN m n)) := by
  have la := ha.len
  have lb := hb.len
  refine Fn.of (C := ref01_compare.K) ref01_compare.b ?_
  rcases Nat.lt_trichotomy (dg m).length (dg n).length with q | q | q
  · have := dg_len_lt q
    refine Comes.last progOk ref01_compare.p0 [] ?_ ?_
    · simp [EvOk, E.b, E.i, E.v, Env.ext, Sub.ev, ltB_iff, leB_iff, eqB_iff, eqB_not, ltB_not, leB_not]; omega
    · simp [EvOk, E.b, E.i, E.v, Env.ext, Sub.ev, ltB_iff, leB_iff, eqB_iff, eqB_not, ltB_not, leB_not]; simp [cmpN, this]
  · have k := compare_loop ha hb (ok_dg m) (ok_dg n) q hm (dg m).length ((dg m).length - 1) rfl (Nat.le_refl _)
    rw [List.take_length, q, List.take_length, val_dg, val_dg, ← q, ← la] at k
    refine Comes.step progOk ref01_compare.p2 [] ?_ k
    simp [EvOk, E.b, E.i, E.v, Env.ext, Sub.ev, ltB_iff, leB_iff, eqB_iff, eqB_not, ltB_not, leB_not]; omega
  · have := dg_len_lt q
    refine Comes.last progOk ref01_compare.p1 [] ?_ ?_
    · simp [EvOk, E.b, E.i, E.v, Env.ext, Sub.ev, ltB_iff, leB_iff, eqB_iff, eqB_not, ltB_not, leB_not]; omega
    · simp [EvOk, E.b, E.i, E.v, Env.ext, Sub.ev, ltB_iff, leB_iff, eqB_iff, eqB_not, ltB_not, leB_not]; simp [cmpN, this]; omega
end X
namespace X
open Go Go.Abs Go.Sym
set_option linter.unusedVariables false
set_option linter.unusedSimpArgs false

theorem minus_loop {a b : V} {m n : Nat} (ha : Ints a (dg m)) (hb : Ints b (dg n)) (hmn : n ≤ m) (hl : (dg m).length ≤ 1000000000) : ∀ (g i c : Nat) (i' c' : Int) (x y out : V) (l : List Nat), g + i = (dg m).length → i' = i → c' = c → c ≤ 1 → Ints out l → Ok l → l.length = i → val l + pw i * (m / pw i) + n = m + pw i * (n / pw i + c) → ∃ r, Ints r (dg (m - n)) ∧ Comes ref01_minus.K ref01_minus.f ref01_minus.s1 ⟨[c', i'], [], [a, b, out]⟩ r := by
  have la := ha.len
  have lb := hb.len
  intro g
  induction g with
  | zero =>
    intro i c i' c' x y out l hg hi hc hc1 hout hok hli hv
    subst hi hc
    have hp : m / pw i = 0 := by
      have := dg_lt m i
      exact Decidable.byContradiction fun q => by have := this.2 q; omega
    have hq : n / pw i = 0 := by
      have := Nat.div_le_div_right (c := pw i) hmn
      rw [hp] at this
      exact Nat.le_zero.1 this
    have hlt : val l < pw i := by rw [← hli]; exact val_lt hok
    rw [hp, hq] at hv
    have hc0 : c = 0 := by
      rcases (show c = 0 ∨ c = 1 by omega) with q | q
      · exact q
      · subst q; rw [Nat.mul_zero, Nat.zero_add, Nat.mul_one] at hv; omega
    subst hc0
    simp only [Nat.mul_zero, Nat.add_zero] at hv
    have hv' : val l = m - n := by omega
    obtain ⟨r, r1, r2⟩ := cut_spec hout hok (by omega)
    rw [hv'] at r1
    refine ⟨r, r1, Comes.last progOk ref01_minus.p5 [r] ?_ ?_⟩
    · simp [EvOk, E.b, E.i, E.v, Env.ext, Sub.ev, ltB_iff, leB_iff, eqB_iff, eqB_not, ltB_not, leB_not]; exact ⟨by omega, r2⟩
    · simp [EvOk, E.b, E.i, E.v, Env.ext, Sub.ev, ltB_iff, leB_iff, eqB_iff, eqB_not, ltB_not, leB_not]
  | succ g ih =>
    intro i c i' c' x y out l hg hi hc hc1 hout hok hli hv
    subst hi hc
    have hp : m / pw i ≠ 0 := (dg_lt m i).1 (by omega)
    have gm := dg_get m i
    rw [if_neg hp] at gm
    have ga := ha.get gm
    have hout' := hout.len
    have hP := Nat.div_add_mod (m / pw i) 10000
    have hQ := Nat.div_add_mod (n / pw i) 10000
    rw [← div_pw, pw_succ] at hP hQ
    have lm : i < (dg m).length := by omega
    have key : ∀ (d c2 : Nat), d + c + n / pw i % 10000 = m / pw i % 10000 + 10000 * c2 → val (l ++ [d]) + pw (i + 1) * (m / pw (i + 1)) + n = m + pw (i + 1) * (n / pw (i + 1) + c2) := by
      intro d c2 hd
      rw [val_append, hli]
      simp only [val]
      rw [← hP, ← hQ] at hv
      rw [pw_succ]
      generalize m / pw i % 10000 = p at *
      generalize n / pw i % 10000 = q at *
      have hd' := congrArg (pw i * ·) hd
      simp only [Nat.mul_add, Nat.mul_zero, Nat.add_zero, Nat.mul_assoc] at hd' hv ⊢
      generalize m / (10000 * pw i) = M at *
      generalize n / (10000 * pw i) = N at *
      have e1 : pw i * (10000 * M) = 10000 * (pw i * M) := Nat.mul_left_comm _ _ _
      have e2 : pw i * (10000 * N) = 10000 * (pw i * N) := Nat.mul_left_comm _ _ _
      have e3 : pw i * (10000 * c2) = 10000 * (pw i * c2) := Nat.mul_left_comm _ _ _
      omega
    have hp1 : m / pw i % 10000 < 10000 := Nat.mod_lt _ (by omega)
    have hq1 : n / pw i % 10000 < 10000 := Nat.mod_lt _ (by omega)
    have snoc : ∀ (d : Nat) (z : Int), z = d → Ints (out.snoc (.int z)) (l ++ [d]) := by intro d z e; subst e; exact hout.snoc d
    have okd : ∀ (d : Nat), d < 10000 → Ok (l ++ [d]) := fun d h => hok.app (by intro z hz; simp at hz; omega)
    have li1 : ∀ d : Nat, (l ++ [d]).length = i + 1 := by intro d; simp [hli]
    by_cases hb0 : n / pw i = 0
    · have hbl : (dg n).length ≤ i := Nat.le_of_not_lt fun q => (dg_lt n i).1 q hb0
      have hq0 : n / pw i % 10000 = 0 := by rw [hb0]
      rw [hq0] at key hq1
      generalize m / pw i % 10000 = p at *
      by_cases hd : (p : Int) - c < 0
      · obtain ⟨r, r1, r2⟩ := ih (i + 1) 1 ((i : Int) + 1) 1 x y (out.snoc (.int ((a.get i).toI - c + 10000))) (l ++ [p + 10000 - c]) (by omega) (by omega) rfl (by omega) (snoc _ _ (by rw [ga]; omega)) (okd _ (by omega)) (li1 _) (key _ 1 (by omega))
        refine ⟨r, r1, Comes.step progOk ref01_minus.p3 [] ?_ r2⟩
        simp [EvOk, E.b, E.i, E.v, Env.ext, Sub.ev, ltB_iff, leB_iff, eqB_iff, eqB_not, ltB_not, leB_not]; rw [ga]; omega
      · obtain ⟨r, r1, r2⟩ := ih (i + 1) 0 ((i : Int) + 1) 0 x y (out.snoc (.int ((a.get i).toI - c))) (l ++ [p - c]) (by omega) (by omega) rfl (by omega) (snoc _ _ (by rw [ga]; omega)) (okd _ (by omega)) (li1 _) (key _ 0 (by omega))
        refine ⟨r, r1, Comes.step progOk ref01_minus.p4 [] ?_ r2⟩
        simp [EvOk, E.b, E.i, E.v, Env.ext, Sub.ev, ltB_iff, leB_iff, eqB_iff, eqB_not, ltB_not, leB_not]; rw [ga]; omega
    · have hbl : i < (dg n).length := (dg_lt n i).2 hb0
      have gn := dg_get n i
      rw [if_neg hb0] at gn
      have gb := hb.get gn
      generalize m / pw i % 10000 = p at *
      generalize n / pw i % 10000 = q at *
      by_cases hd : (p : Int) - c - q < 0
      · obtain ⟨r, r1, r2⟩ := ih (i + 1) 1 ((i : Int) + 1) 1 x y (out.snoc (.int ((a.get i).toI - c - (b.get i).toI + 10000))) (l ++ [p + 10000 - c - q]) (by omega) (by omega) rfl (by omega) (snoc _ _ (by rw [ga, gb]; omega)) (okd _ (by omega)) (li1 _) (key _ 1 (by omega))
        refine ⟨r, r1, Comes.step progOk ref01_minus.p1 [] ?_ r2⟩
        simp [EvOk, E.b, E.i, E.v, Env.ext, Sub.ev, ltB_iff, leB_iff, eqB_iff, eqB_not, ltB_not, leB_not]; rw [ga, gb]; omega
      · obtain ⟨r, r1, r2⟩ := ih (i + 1) 0 ((i : Int) + 1) 0 x y (out.snoc (.int ((a.get i).toI - c - (b.get i).toI))) (l ++ [p - c - q]) (by omega) (by omega) rfl (by omega) (snoc _ _ (by rw [ga, gb]; omega)) (okd _ (by omega)) (li1 _) (key _ 0 (by omega))
        refine ⟨r, r1, Comes.step progOk ref01_minus.p2 [] ?_ r2⟩
        simp [EvOk, E.b, E.i, E.v, Env.ext, Sub.ev, ltB_iff, leB_iff, eqB_iff, eqB_not, ltB_not, leB_not]; rw [ga, gb]; omega
theorem minus_spec {a b : V} {m n : Nat} (ha : Ints a (dg m)) (hb : Ints b (dg n)) (hmn : n ≤ m) (hl : (dg m).length ≤ 1000000000) : ∃ r, Ints r (dg (m - n)) ∧ Fn prog ref01_minus.f [a, b] r := by
  obtain ⟨r, r1, r2⟩ := minus_loop ha hb hmn hl (dg m).length 0 0 0 0 .nil .nil .nil [] (by omega) rfl rfl (by omega) ints_nil (by intro x hx; simp at hx) rfl (by simp [val, pw_zero])
  refine ⟨r, r1, Fn.of (C := ref01_minus.K) ref01_minus.b ?_⟩
  exact Comes.step progOk ref01_minus.p0 [] trivial r2
end X
namespace X
open Go Go.Abs Go.Sym
set_option linter.unusedVariables false
set_option linter.unusedSimpArgs false
theorem tdivN (n : Nat) (z : Int) (h : z = n) : z.tdiv 10000 = ((n / 10000 : Nat) : Int) := by subst h; rw [Int.tdiv_eq_ediv_of_nonneg (by omega)]; rfl
theorem tmodN (n : Nat) (z : Int) (h : z = n) : z.tmod 10000 = ((n % 10000 : Nat) : Int) := by subst h; rw [Int.tmod_eq_emod_of_nonneg (by omega)]; rfl

theorem times_inner {a b : V} {l k : List Nat} {i d : Nat} (ha : Ints a l) (hb : Ints b k) (hk : ∀ x ∈ k, x ≤ 10000) (hvk : val k ≤ pw k.length) (hd : l[i]? = some d) (hd1 : d < 10000) (hvl : val (l.take (i + 1)) < pw (i + 1)) (hn : l.length + k.length ≤ 1000000000) {R : V → Prop}
    (H : ∀ (out : V) (o : List Nat), Ints out o → Ok o → o.length = l.length + k.length → val o = val (l.take (i + 1)) * val k → ∃ r, R r ∧ Comes ref01_times.K ref01_times.f ref01_times.s1 ⟨[(i : Int) + 1], [], [a, b, out]⟩ r) :
    ∀ (t j c : Nat) (j' c' : Int) (out : V) (o : List Nat), t + (i + j) = l.length + k.length → j' = j → c' = c → c ≤ 10000 → Ints out o → Ok o → o.length = l.length + k.length → val o + c * pw (i + j) = val (l.take i) * val k + d * (val (k.take j) * pw i) → ∃ r, R r ∧ Comes ref01_times.K ref01_times.f ref01_times.s2 ⟨[c', j', (i : Int)], [], [a, b, out]⟩ r := by
  have la := ha.len
  have lb := hb.len
  have hi : i < l.length := (List.getElem?_eq_some_iff.1 hd).1
  have ga := ha.get hd
  have htk := val_take_succ l i d hd
  have hprod : ∀ j, k.length ≤ j → val (l.take i) * val k + d * (val (k.take j) * pw i) = val (l.take (i + 1)) * val k := by
    intro j hj
    rw [List.take_of_length_le hj, htk, Nat.add_mul]
    congr 1
    ac_rfl
  have hbound : val (l.take (i + 1)) * val k < pw (i + 1 + k.length) := by
    rw [pw_add]
    exact Nat.lt_of_le_of_lt (Nat.mul_le_mul_left _ hvk) (Nat.mul_lt_mul_of_pos_right hvl (pw_pos _))
  intro t
  induction t with
  | zero =>
    intro j c j' c' out o ht hj hc hc1 hout hok hol hv
    subst hj hc
    have hjl : k.length ≤ j := by omega
    have hc0 : c = 0 := by
      rcases Nat.eq_zero_or_pos c with q | q
      · exact q
      · exfalso
        rw [hprod j hjl] at hv
        have h1 : pw (i + 1 + k.length) ≤ pw (i + j) := Nat.pow_le_pow_right (by omega) (by omega)
        have h2 : pw (i + j) ≤ c * pw (i + j) := Nat.le_mul_of_pos_left _ q
        omega
    subst hc0
    obtain ⟨r, r1, r2⟩ := H out o hout hok hol (by rw [← hprod j hjl, ← hv]; simp)
    refine ⟨r, r1, Comes.step progOk ref01_times.p7 [] ?_ r2⟩
    simp [EvOk, E.b, E.i, E.v, Env.ext, Sub.ev, ltB_iff, leB_iff, eqB_iff, eqB_not, ltB_not, leB_not]; omega
  | succ t ih =>
    intro j c j' c' out o ht hj hc hc1 hout hok hol hv
    subst hj hc
    have lo := hout.len
    have hij : i + j < o.length := by omega
    obtain ⟨e, he⟩ : ∃ e, o[i + j]? = some e := ⟨_, List.getElem?_eq_getElem hij⟩
    have he1 : e < 10000 := hok e (List.mem_of_getElem? he)
    have ge := hout.get he
    have setI : ∀ (x : Nat) (z : Int), z = x → Ints (out.set ((i : Int) + j) (.int z)) (o.set (i + j) x) := by
      intro x z e; subst e; have := hout.set (i + j) x; rwa [Int.natCast_add] at this
    have vs : ∀ x, val (o.set (i + j) x) + e * pw (i + j) = val o + x * pw (i + j) := val_set he
    by_cases hjk : j < k.length
    · obtain ⟨f, hf⟩ : ∃ f, k[j]? = some f := ⟨_, List.getElem?_eq_getElem hjk⟩
      have hf1 : f ≤ 10000 := hk f (List.mem_of_getElem? hf)
      have gb := hb.get hf
      have hdf : d * f ≤ 9999 * 10000 := Nat.mul_le_mul (by omega) hf1
      have hvt := val_take_succ k j f hf
      have num : (c : Int) + (out.get ((i : Int) + j)).toI + (a.get i).toI * (b.get j).toI = ((c + e + d * f : Nat) : Int) := by
        rw [ga, gb, ← Int.natCast_add, ge]; push_cast; rfl
      have e1 := Nat.div_add_mod (c + e + d * f) 10000
      obtain ⟨r, r1, r2⟩ := ih (j + 1) ((c + e + d * f) / 10000) ((j : Int) + 1) (((c : Int) + (out.get ((i : Int) + j)).toI + (a.get i).toI * (b.get j).toI).tdiv 10000) (out.set ((i : Int) + j) (.int (((c : Int) + (out.get ((i : Int) + j)).toI + (a.get i).toI * (b.get j).toI).tmod 10000))) (o.set (i + j) ((c + e + d * f) % 10000)) (by omega) (by omega) (tdivN _ _ num) (by omega) (setI _ _ (tmodN _ _ num)) (hok.set _ _ (by omega)) (by simp [hol]) (by
        have := vs ((c + e + d * f) % 10000)
        have e2 := congrArg (· * pw (i + j)) e1
        simp only [Nat.add_mul] at e2
        rw [hvt, show i + (j + 1) = (i + j) + 1 from rfl, pw_succ, Nat.mul_left_comm]
        rw [Nat.mul_assoc] at e2
        have e3 : d * ((val (k.take j) + pw j * f) * pw i) = d * (val (k.take j) * pw i) + d * f * pw (i + j) := by
          rw [Nat.add_mul, Nat.mul_add, pw_add, Nat.mul_assoc d f, Nat.mul_comm (pw j) f, Nat.mul_assoc f, Nat.mul_comm (pw j)]
        rw [e3]
        generalize (c + e + d * f) % 10000 = A at *
        generalize (c + e + d * f) / 10000 = A' at *
        generalize A' * pw (i + j) = A2 at *
        omega)
      refine ⟨r, r1, Comes.step progOk ref01_times.p3 [] ?_ r2⟩
      have n1 := tdivN _ _ num
      have ge' : (out.get ((i : Int) + j)).toI = e := by rw [← Int.natCast_add]; exact ge
      rw [ge', ga, gb] at n1
      simp [EvOk, E.b, E.i, E.v, Env.ext, Sub.ev, ltB_iff, leB_iff, eqB_iff, eqB_not, ltB_not, leB_not]
      rw [ge', ga, gb, n1]
      have : ((d : Int) * f) = ((d * f : Nat) : Int) := by push_cast; rfl
      rw [this]
      omega
    · have hjl : k.length ≤ j := by omega
      rcases Nat.eq_zero_or_pos c with q | q
      · subst q
        obtain ⟨r, r1, r2⟩ := H out o hout hok hol (by rw [← hprod j hjl, ← hv]; simp)
        refine ⟨r, r1, Comes.step progOk ref01_times.p7 [] ?_ r2⟩
        simp [EvOk, E.b, E.i, E.v, Env.ext, Sub.ev, ltB_iff, leB_iff, eqB_iff, eqB_not, ltB_not, leB_not]; omega
      · have num : (c : Int) + (out.get ((i : Int) + j)).toI = ((c + e : Nat) : Int) := by
          rw [← Int.natCast_add, ge]; push_cast; rfl
        have e1 := Nat.div_add_mod (c + e) 10000
        obtain ⟨r, r1, r2⟩ := ih (j + 1) ((c + e) / 10000) ((j : Int) + 1) (((c : Int) + (out.get ((i : Int) + j)).toI).tdiv 10000) (out.set ((i : Int) + j) (.int (((c : Int) + (out.get ((i : Int) + j)).toI).tmod 10000))) (o.set (i + j) ((c + e) % 10000)) (by omega) (by omega) (tdivN _ _ num) (by omega) (setI _ _ (tmodN _ _ num)) (hok.set _ _ (by omega)) (by simp [hol]) (by
          have := vs ((c + e) % 10000)
          have e2 := congrArg (· * pw (i + j)) e1
          simp only [Nat.add_mul] at e2
          rw [List.take_of_length_le (l := k) (i := j + 1) (by omega), show i + (j + 1) = (i + j) + 1 from rfl, pw_succ, Nat.mul_left_comm]
          rw [List.take_of_length_le (l := k) (i := j) (by omega)] at hv
          rw [Nat.mul_assoc] at e2
          generalize (c + e) % 10000 = A at *
          generalize (c + e) / 10000 = A' at *
          generalize A' * pw (i + j) = A2 at *
          omega)
        refine ⟨r, r1, Comes.step progOk ref01_times.p6 [] ?_ r2⟩
        have n1 := tdivN _ _ num
        have ge' : (out.get ((i : Int) + j)).toI = e := by rw [← Int.natCast_add]; exact ge
        rw [ge'] at n1
        simp [EvOk, E.b, E.i, E.v, Env.ext, Sub.ev, ltB_iff, leB_iff, eqB_iff, eqB_not, ltB_not, leB_not]
        rw [ge', n1]
        omega
theorem times_spec {a b : V} {l k : List Nat} (ha : Ints a l) (hb : Ints b k) (hl : Ok l) (hk : ∀ x ∈ k, x ≤ 10000) (hvk : val k ≤ pw k.length) (hn : l.length + k.length ≤ 1000000000) : ∃ r, Ints r (dg (val l * val k)) ∧ Fn prog ref01_times.f [a, b] r := by
  have la := ha.len
  have lb := hb.len
  have outer : ∀ (t i : Nat) (i' : Int) (out : V) (o : List Nat), t + i = l.length → i' = i → Ints out o → Ok o → o.length = l.length + k.length → val o = val (l.take i) * val k → ∃ r, Ints r (dg (val l * val k)) ∧ Comes ref01_times.K ref01_times.f ref01_times.s1 ⟨[i'], [], [a, b, out]⟩ r := by
    intro t
    induction t with
    | zero =>
      intro i i' out o ht hi hout hok hol hv
      subst hi
      obtain ⟨r, r1, r2⟩ := cut_spec hout hok (by omega)
      rw [hv, List.take_of_length_le (by omega)] at r1
      refine ⟨r, r1, Comes.last progOk ref01_times.p2 [r] ?_ ?_⟩
      · simp [EvOk, E.b, E.i, E.v, Env.ext, Sub.ev, ltB_iff, leB_iff, eqB_iff, eqB_not, ltB_not, leB_not]; exact ⟨by omega, r2⟩
      · simp [EvOk, E.b, E.i, E.v, Env.ext, Sub.ev, ltB_iff, leB_iff, eqB_iff, eqB_not, ltB_not, leB_not]
    | succ t ih =>
      intro i i' out o ht hi hout hok hol hv
      subst hi
      have hil : i < l.length := by omega
      obtain ⟨d, hd⟩ : ∃ e, l[i]? = some e := ⟨_, List.getElem?_eq_getElem hil⟩
      have hd1 : d < 10000 := hl d (List.mem_of_getElem? hd)
      have hvl : val (l.take (i + 1)) < pw (i + 1) := by
        have := val_lt (l := l.take (i + 1)) (fun x hx => hl x (List.mem_of_mem_take hx))
        rwa [List.length_take, Nat.min_eq_left (by omega)] at this
      obtain ⟨r, r1, r2⟩ := times_inner ha hb hk hvk hd hd1 hvl hn (R := fun r => Ints r (dg (val l * val k))) (fun out' o' h1 h2 h3 h4 => ih (i + 1) ((i : Int) + 1) out' o' (by omega) (by omega) h1 h2 h3 h4) (l.length + k.length - i) 0 0 0 0 out o (by omega) rfl rfl (by omega) hout hok hol (by simp [hv, val])
      refine ⟨r, r1, Comes.step progOk ref01_times.p1 [] ?_ r2⟩
      simp [EvOk, E.b, E.i, E.v, Env.ext, Sub.ev, ltB_iff, leB_iff, eqB_iff, eqB_not, ltB_not, leB_not]; omega
  obtain ⟨r, r1, r2⟩ := outer l.length 0 0 (V.rep (a.len + b.len) (.int 0)) (List.replicate (l.length + k.length) 0) (by omega) rfl (by rw [la, lb, ← Int.natCast_add]; exact Ints.rep _ 0) (by intro x hx; have := List.eq_of_mem_replicate hx; omega) (by simp) (by rw [val_rep]; simp [val])
  refine ⟨r, r1, Fn.of (C := ref01_times.K) ref01_times.b ?_⟩
  refine Comes.step progOk ref01_times.p0 [] ?_ r2
  simp [EvOk, E.b, E.i, E.v, Env.ext, Sub.ev, ltB_iff, leB_iff, eqB_iff, eqB_not, ltB_not, leB_not]; omega
end X
namespace X
open Go Go.Abs Go.Sym
set_option linter.unusedVariables false
set_option linter.unusedSimpArgs false

theorem quot_lo {R n E : Nat} (hE : 0 < E) (hn : 0 < n) : (R / E) / (n / E + 1) ≤ R / n := by
  rw [Nat.le_div_iff_mul_le hn]
  have h1 := Nat.div_mul_le_self (R / E) (n / E + 1)
  have h2 := Nat.div_mul_le_self R E
  have h3 : n ≤ (n / E + 1) * E := by
    have := Nat.div_add_mod n E
    have := Nat.mod_lt n hE
    rw [Nat.add_mul, Nat.one_mul, Nat.mul_comm (n / E)]; omega
  calc R / E / (n / E + 1) * n ≤ R / E / (n / E + 1) * ((n / E + 1) * E) := Nat.mul_le_mul_left _ h3
    _ = R / E / (n / E + 1) * (n / E + 1) * E := by rw [Nat.mul_assoc]
    _ ≤ R / E * E := Nat.mul_le_mul_right _ h1
    _ ≤ R := h2
theorem quot_hi {R n E : Nat} (hE : 0 < E) (hT : 0 < n / E) : R / n ≤ (R / E) / (n / E) := by
  rw [Nat.le_div_iff_mul_le hT, Nat.le_div_iff_mul_le hE, Nat.mul_assoc]
  calc R / n * (n / E * E) ≤ R / n * n := Nat.mul_le_mul_left _ (Nat.div_mul_le_self n E)
    _ ≤ R := Nat.div_mul_le_self R n
theorem quot_cap {R n E : Nat} (hE : 0 < E) (hR : R < n * 10000) (h : E = 1 ∨ 10000 ≤ n / E) : (R / E) / (n / E) ≤ 10000 := by
  rcases h with rfl | h
  · rw [Nat.div_one, Nat.div_one]
    rcases Nat.eq_zero_or_pos n with q | q
    · subst q; simp
    · have := (Nat.div_lt_iff_lt_mul q).2 (show R < 10000 * n by omega)
      omega
  · have h3 : n < (n / E + 1) * E := by
      have := Nat.div_add_mod n E
      have := Nat.mod_lt n hE
      rw [Nat.add_mul, Nat.one_mul, Nat.mul_comm (n / E)]; omega
    have h4 : R / E < (n / E + 1) * 10000 := by
      rw [Nat.div_lt_iff_lt_mul hE]
      calc R < n * 10000 := hR
        _ ≤ (n / E + 1) * E * 10000 := Nat.mul_le_mul_right _ (by omega)
        _ = (n / E + 1) * 10000 * E := by ac_rfl
    have h5 : R / E / (n / E) < 10001 := by
      rw [Nat.div_lt_iff_lt_mul (by omega)]
      generalize n / E = T at *
      omega
    omega

/-- The quotient's digit is found. -/
theorem divide_search {a b q0 q rest : V} {n R : Nat} (hn : 0 < n) (hb : Ints b (dg n)) (hr : Ints rest (dg R)) (hR : R < n * 10000) (hl : (dg n).length ≤ 100000000) {Q : V → Prop} (z : List Int) (hz : z.length = 7) (i : Int)
    (H : ∃ r, Q r ∧ Comes ref01_divide.K ref01_divide.f ref01_divide.s3 ⟨[((R / n : Nat) : Int), ((R / n : Nat) : Int)] ++ z ++ [i], [], [a, b, q0, q, rest]⟩ r) :
    ∀ (t low high : Nat) (low' high' : Int), t + low = high → low' = low → high' = high → low ≤ R / n → R / n ≤ high → high ≤ 10000 → ∃ r, Q r ∧ Comes ref01_divide.K ref01_divide.f ref01_divide.s3 ⟨[low', high'] ++ z ++ [i], [], [a, b, q0, q, rest]⟩ r := by
  obtain ⟨z0, z1, z2, z3, z4, z5, z6, rfl⟩ : ∃ z0 z1 z2 z3 z4 z5 z6, z = [z0, z1, z2, z3, z4, z5, z6] := by
    match z, hz with
    | [z0, z1, z2, z3, z4, z5, z6], _ => exact ⟨z0, z1, z2, z3, z4, z5, z6, rfl⟩
  intro t
  induction t using Nat.strongRecOn with
  | _ t ih =>
    intro low high low' high' ht h1 h2 h3 h4 h5
    subst h1 h2
    by_cases hlh : low = high
    · subst hlh
      have : R / n = low := by omega
      rw [this] at H
      exact H
    · have hlen1 : (dg (n * ((low + high + 1) / 2))).length ≤ 100000001 := by
        have h1 : n < pw (dg n).length := by have := val_lt (ok_dg n); rwa [val_dg] at this
        have h2 : n * ((low + high + 1) / 2) ≤ n * 10000 := Nat.mul_le_mul_left _ (by omega)
        have := dg_len (n := n * ((low + high + 1) / 2)) (k := (dg n).length + 1) (by rw [pw_succ]; omega)
        omega
      have hmid : ((low : Int) + high + 1).tdiv 2 = (((low + high + 1) / 2 : Nat) : Int) := by
        rw [Int.tdiv_eq_ediv_of_nonneg (by omega)]; omega
      generalize hm : (low + high + 1) / 2 = mid at *
      have hI : Ints ((V.list []).snoc (.int (((low : Int) + high + 1).tdiv 2))) [mid] := by rw [hmid]; exact ints_emp.snoc mid
      obtain ⟨r5, r51, r52⟩ := times_spec hb hI (ok_dg n) (by intro x hx; simp at hx; omega) (by simp [val, pw_succ, pw_zero]; omega) (by simp; omega)
      rw [val_dg] at r51
      simp only [val, Nat.mul_zero, Nat.add_zero] at r51
      have r6 := compare_spec r51 hr (by omega)
      by_cases hc : n * mid ≤ R
      · obtain ⟨r, r1, r2⟩ := ih (high - mid) (by omega) mid high (((low : Int) + high + 1).tdiv 2) high (by omega) hmid rfl (by rw [Nat.le_div_iff_mul_le hn, Nat.mul_comm]; exact hc) h4 h5
        refine ⟨r, r1, Comes.step progOk ref01_divide.p9 [r5, .int (cmpN (n * mid) R)] ?_ r2⟩
        simp [EvOk, E.b, E.i, E.v, Env.ext, Sub.ev, ltB_iff, leB_iff, eqB_iff, eqB_not, ltB_not, leB_not]
        refine ⟨by omega, by omega, by omega, by omega, r52, r6, ?_⟩
        show cmpN _ _ ≤ 0
        unfold cmpN; split <;> (try split) <;> omega
      · have hq : R / n < mid := by rw [Nat.div_lt_iff_lt_mul hn, Nat.mul_comm]; omega
        obtain ⟨r, r1, r2⟩ := ih (mid - 1 - low) (by omega) low (mid - 1) low (((low : Int) + high + 1).tdiv 2 - 1) (by omega) rfl (by omega) h3 (by omega) (by omega)
        refine ⟨r, r1, Comes.step progOk ref01_divide.p10 [r5, .int (cmpN (n * mid) R)] ?_ r2⟩
        simp [EvOk, E.b, E.i, E.v, Env.ext, Sub.ev, ltB_iff, leB_iff, eqB_iff, eqB_not, ltB_not, leB_not]
        refine ⟨by omega, by omega, by omega, by omega, r52, r6, ?_, by omega⟩
        show 0 < cmpN _ _
        unfold cmpN; split <;> (try split) <;> omega

/-- The first digits. -/
theorem divide_first {a b q0 q rest : V} {n R N : Nat} (hN : N + 1 = (dg n).length) (hb : Ints b (dg n)) (hr : Ints rest (dg R)) (hR : R < n * 10000) (hl : (dg n).length ≤ 100000000) {Q : V → Prop} (i : Int)
    (H : ∃ r, Q r ∧ Comes ref01_divide.K ref01_divide.f ref01_divide.s2 ⟨[((n / pw (N - 1) : Nat) : Int), ((R / pw (N - 1) : Nat) : Int), ((N - 1 : Nat) : Int) - 1, i], [], [a, b, q0, q, rest]⟩ r) :
    ∀ (t j : Nat) (top first k : Int), t + (N - 1) = j → j ≤ N + 2 → top = ((n / pw j : Nat) : Int) → first = ((R / pw j : Nat) : Int) → k = (j : Int) - 1 → ∃ r, Q r ∧ Comes ref01_divide.K ref01_divide.f ref01_divide.s2 ⟨[top, first, k, i], [], [a, b, q0, q, rest]⟩ r := by
  have lb := hb.len
  have lr := hr.len
  have hnl : n < pw (N + 1) := by have := val_lt (ok_dg n); rwa [val_dg, ← hN] at this
  intro t
  induction t with
  | zero =>
    intro j top first k ht hj h1 h2 h3
    rw [Nat.zero_add] at ht
    subst ht h1 h2 h3
    exact H
  | succ t ih =>
    intro j top first k ht hj h1 h2 h3
    obtain ⟨g, rfl⟩ : ∃ g, j = g + 1 := ⟨j - 1, by omega⟩
    subst h1 h2 h3
    have hk : ((g + 1 : Nat) : Int) - 1 = g := by omega
    rw [hk]
    have dn := div_pw n g
    have dR := div_pw R g
    have an := Nat.div_add_mod (n / pw g) 10000
    have aR := Nat.div_add_mod (R / pw g) 10000
    rw [← dn] at an
    rw [← dR] at aR
    have hpN : pw N ≤ pw (g + 1) := Nat.pow_le_pow_right (by omega) (by omega)
    have hpS := pw_succ N
    have bigR : R / pw (g + 1) < 1000000000000 := by
      rw [Nat.div_lt_iff_lt_mul (pw_pos _)]
      omega
    have bign : n / pw (g + 1) < 1000000000000 := by
      rw [Nat.div_lt_iff_lt_mul (pw_pos _)]
      omega
    have mx : maxI 0 ((b.len : Int) - 1 - 1) ≤ g := by unfold maxI; split <;> omega
    have hmx : max (0 : Int) 0 = 0 := rfl
    have hR1 : R / pw g % 10000 < 10000 := Nat.mod_lt _ (by omega)
    have hn1 : n / pw g % 10000 < 10000 := Nat.mod_lt _ (by omega)
    by_cases hgr : g < (dg R).length
    · have g1 := dg_get R g
      rw [if_neg ((dg_lt R g).1 hgr)] at g1
      have gr := hr.get g1
      by_cases hgn : g < (dg n).length
      · have g2 := dg_get n g
        rw [if_neg ((dg_lt n g).1 hgn)] at g2
        have gn := hb.get g2
        obtain ⟨r, r1, r2⟩ := ih g (((n / pw (g + 1) : Nat) : Int) * 10000 + (b.get g).toI) (((R / pw (g + 1) : Nat) : Int) * 10000 + (rest.get g).toI) ((g : Int) - 1) (by omega) (by omega) (by rw [gn]; omega) (by rw [gr]; omega) rfl
        refine ⟨r, r1, Comes.step progOk ref01_divide.p4 [] ?_ r2⟩
        simp only [EvOk, E.b, E.i, E.v, Env.ext, List.getD_cons_zero, List.getD_cons_succ, List.append_nil, ltB_iff, leB_iff, Bool.and_eq_true, Bool.not_eq_true', ltB_not, leB_not, and_true, gn, gr]
        omega
      · have z1 : n / pw g = 0 := Decidable.byContradiction fun q => hgn ((dg_lt n g).2 q)
        obtain ⟨r, r1, r2⟩ := ih g (((n / pw (g + 1) : Nat) : Int)) (((R / pw (g + 1) : Nat) : Int) * 10000 + (rest.get g).toI) ((g : Int) - 1) (by omega) (by omega) (by rw [dn, z1]) (by rw [gr]; omega) rfl
        refine ⟨r, r1, Comes.step progOk ref01_divide.p5 [] ?_ r2⟩
        simp only [EvOk, E.b, E.i, E.v, Env.ext, List.getD_cons_zero, List.getD_cons_succ, List.append_nil, ltB_iff, leB_iff, Bool.and_eq_true, Bool.not_eq_true', ltB_not, leB_not, and_true, gr]
        omega
    · have z0 : R / pw g = 0 := Decidable.byContradiction fun q => hgr ((dg_lt R g).2 q)
      have z0' : R / pw (g + 1) = 0 := by rw [dR, z0]
      by_cases hgn : g < (dg n).length
      · have g2 := dg_get n g
        rw [if_neg ((dg_lt n g).1 hgn)] at g2
        have gn := hb.get g2
        obtain ⟨r, r1, r2⟩ := ih g (((n / pw (g + 1) : Nat) : Int) * 10000 + (b.get g).toI) (((R / pw (g + 1) : Nat) : Int) * 10000) ((g : Int) - 1) (by omega) (by omega) (by rw [gn]; omega) (by omega) rfl
        refine ⟨r, r1, Comes.step progOk ref01_divide.p6 [] ?_ r2⟩
        simp only [EvOk, E.b, E.i, E.v, Env.ext, List.getD_cons_zero, List.getD_cons_succ, List.append_nil, ltB_iff, leB_iff, Bool.and_eq_true, Bool.not_eq_true', ltB_not, leB_not, and_true, gn]
        omega
      · have z1 : n / pw g = 0 := Decidable.byContradiction fun q => hgn ((dg_lt n g).2 q)
        obtain ⟨r, r1, r2⟩ := ih g (((n / pw (g + 1) : Nat) : Int)) (((R / pw (g + 1) : Nat) : Int) * 10000) ((g : Int) - 1) (by omega) (by omega) (by rw [dn, z1]) (by omega) rfl
        refine ⟨r, r1, Comes.step progOk ref01_divide.p7 [] ?_ r2⟩
        simp only [EvOk, E.b, E.i, E.v, Env.ext, List.getD_cons_zero, List.getD_cons_succ, List.append_nil, ltB_iff, leB_iff, Bool.and_eq_true, Bool.not_eq_true', ltB_not, leB_not, and_true]
        omega
end X
namespace X
open Go Go.Abs Go.Sym
set_option linter.unusedVariables false
set_option linter.unusedSimpArgs false

theorem rep_get {n i : Nat} (h : i < n) : (List.replicate n 0)[i]? = some 0 := by simp [h]
theorem divide_spec {a b : V} {m n : Nat} (ha : Ints a (dg m)) (hb : Ints b (dg n)) (hn : 0 < n) (lm : (dg m).length ≤ 50000000) (ln : (dg n).length ≤ 50000000) : ∃ x y, Ints x (dg (m / n)) ∧ Ints y (dg (m % n)) ∧ Fn prog ref01_divide.f [a, b] (.list [x, y]) := by
  have la := ha.len
  have lb := hb.len
  have hnl : n < pw (dg n).length := by have := val_lt (ok_dg n); rwa [val_dg] at this
  have hml : m < pw (dg m).length := by have := val_lt (ok_dg m); rwa [val_dg] at this
  have hnp : 0 < (dg n).length := (dg_lt n 0).2 (by rw [pw_zero]; simp; omega)
  obtain ⟨N, hN⟩ : ∃ N, N + 1 = (dg n).length := ⟨(dg n).length - 1, by omega⟩
  have hNp : pw N ≤ n := by
    have := (dg_lt n N).1 (by omega)
    have h1 : 1 ≤ n / pw N := Nat.pos_of_ne_zero this
    rwa [Nat.le_div_iff_mul_le (pw_pos _), Nat.one_mul] at h1
  by_cases hs : (dg m).length ≤ N
  · have hmn : m < n := by
      have : pw (dg m).length ≤ pw N := Nat.pow_le_pow_right (by omega) hs
      omega
    refine ⟨.nil, (V.list []).app a, ?_, ?_, Fn.of (C := ref01_divide.K) ref01_divide.b ?_⟩
    · rw [Nat.div_eq_of_lt hmn]; exact ints_nil
    · rw [Nat.mod_eq_of_lt hmn]; exact ints_emp.app ha
    · refine Comes.last progOk ref01_divide.p0 [] ?_ ?_
      · simp [EvOk, E.b, E.i, E.v, Env.ext, Sub.ev, ltB_iff, leB_iff, eqB_iff, eqB_not, ltB_not, leB_not]; omega
      · simp [EvOk, E.b, E.i, E.v, Env.ext, Sub.ev, ltB_iff, leB_iff, eqB_iff, eqB_not, ltB_not, leB_not]; simp [V.snoc, V.els]
  · have outer : ∀ (j : Nat) (i' : Int) (q0 q rest : V) (l : List Nat), j ≤ (dg m).length - N → i' = (j : Int) - 1 → Ints rest (dg (m / pw j % n)) → Ints q l → Ok l → l.length = (dg m).length - N → (∀ t, t < j → l[t]? = some 0) → val l = pw j * (m / pw j / n) → ∃ r, (∃ x y, r = V.list [x, y] ∧ Ints x (dg (m / n)) ∧ Ints y (dg (m % n))) ∧ Comes ref01_divide.K ref01_divide.f ref01_divide.s1 ⟨[i'], [], [a, b, q, rest]⟩ r := by
      intro j
      induction j with
      | zero =>
        intro i' q0 q rest l hj hi hr hq hok hl hz hv
        subst hi
        rw [pw_zero, Nat.div_one] at hr
        rw [pw_zero, Nat.div_one, Nat.one_mul] at hv
        obtain ⟨r, r1, r2⟩ := cut_spec hq hok (by omega)
        rw [hv] at r1
        refine ⟨.list [r, rest], ⟨r, rest, rfl, r1, hr⟩, Comes.last progOk ref01_divide.p3 [r] ?_ ?_⟩
        · simp [EvOk, E.b, E.i, E.v, Env.ext, Sub.ev, ltB_iff, leB_iff, eqB_iff, eqB_not, ltB_not, leB_not]; exact r2
        · simp [EvOk, E.b, E.i, E.v, Env.ext, Sub.ev, ltB_iff, leB_iff, eqB_iff, eqB_not, ltB_not, leB_not]; simp [V.snoc, V.els]
      | succ i ih =>
        intro i' q0 q rest l hj hi hr hq hok hl hz hv
        have hi' : i' = (i : Int) := by omega
        subst hi'
        have lr := hr.len
        have lq := hq.len
        have him : i < (dg m).length := by omega
        have g1 := dg_get m i
        rw [if_neg ((dg_lt m i).1 him)] at g1
        have ga := ha.get g1
        have dm := div_pw m i
        have am := Nat.div_add_mod (m / pw i) 10000
        rw [← dm] at am
        have hd1 : m / pw i % 10000 < 10000 := Nat.mod_lt _ (by omega)
        generalize hD : m / pw i % 10000 = D at *
        generalize hM1 : m / pw (i + 1) = M1 at *
        have hrn : M1 % n < n := Nat.mod_lt _ hn
        generalize hRR : D + 10000 * (M1 % n) = R at *
        have hR : R < n * 10000 := by omega
        have hMR : m / pw i = n * (10000 * (M1 / n)) + R := by
          have := Nat.div_add_mod M1 n
          rw [← am, ← hRR, Nat.mul_left_comm]
          omega
        have hmod : m / pw i % n = R % n := by rw [hMR, Nat.mul_add_mod]
        have hdiv : m / pw i / n = 10000 * (M1 / n) + R / n := by rw [hMR, Nat.mul_add_div hn]
        have hlr : (dg (M1 % n)).length ≤ (dg n).length := dg_len (by omega)
        have hlR : (dg R).length ≤ (dg n).length + 1 := dg_len (by rw [pw_succ]; omega)
        -- the rest with the next digit
        have I1 : Ints (((V.list []).snoc (.int (a.get i).toI)).app rest) ([D] ++ dg (M1 % n)) := by
          rw [ga]; exact (ints_emp.snoc D).app hr
        obtain ⟨r4, r41, r42⟩ := cut_spec I1 (Ok.app (by intro x hx; simp at hx; omega) (ok_dg _)) (by simp; omega)
        have hv4 : val ([D] ++ dg (M1 % n)) = R := by simp [val, val_dg, hRR]
        rw [hv4] at r41
        -- the digit
        have hE := pw_pos (N - 1)
        have hT : 0 < n / pw (N - 1) := by
          have : pw (N - 1) ≤ n := Nat.le_trans (Nat.pow_le_pow_right (by omega) (by omega)) hNp
          exact Nat.div_pos this hE
        have hcap := quot_cap hE hR (by
          rcases Nat.eq_zero_or_pos N with z | z
          · left; subst z; rfl
          · right
            rw [Nat.le_div_iff_mul_le hE, ← pw_succ, show N - 1 + 1 = N from by omega]; exact hNp)
        have hlo := quot_lo (R := R) hE hn
        have hhi := quot_hi (R := R) hE hT
        have hq9 : R / n < 10000 := by rw [Nat.div_lt_iff_lt_mul hn]; omega
        -- after the search
        have I2 : Ints ((V.list []).snoc (.int ((R / n : Nat) : Int))) [R / n] := ints_emp.snoc _
        obtain ⟨r5, r51, r52⟩ := cut_spec I2 (by intro x hx; simp at hx; omega) (by simp)
        simp only [val, Nat.mul_zero, Nat.add_zero] at r51
        have hq1 : (dg (R / n)).length ≤ 1 := dg_len (by rw [pw_succ, pw_zero]; omega)
        obtain ⟨r6, r61, r62⟩ := times_spec hb r51 (ok_dg _) (by intro x hx; have := ok_dg _ x hx; omega) (by have := val_lt (ok_dg (R / n)); omega) (by omega)
        rw [val_dg, val_dg] at r61
        obtain ⟨r7, r71, r72⟩ := minus_spec r41 r61 (Nat.mul_div_le R n) (by omega)
        have hsub : R - n * (R / n) = m / pw i % n := by
          rw [hmod]; have := Nat.div_add_mod R n; omega
        rw [hsub] at r71
        have hset : l[i]? = some 0 := hz i (by omega)
        have vs := val_set hset (R / n)
        obtain ⟨r, hr1, hr2⟩ := ih ((i : Int) - 1) q (q.set (i : Int) (.int ((R / n : Nat) : Int))) r7 (l.set i (R / n)) (by omega) rfl r71 (hq.set _ _) (hok.set _ _ hq9) (by simp [hl]) (by
            intro t ht
            rw [List.getElem?_set_ne (by omega)]; exact hz t (by omega)) (by
            rw [hdiv]
            rw [pw_succ] at hv
            rw [Nat.mul_add]
            have : 10000 * pw i * (M1 / n) = pw i * (10000 * (M1 / n)) := by ac_rfl
            have e2 : R / n * pw i = pw i * (R / n) := Nat.mul_comm _ _
            omega)
        have S3 : ∀ z : List Int, z.length = 7 → ∃ r, (∃ x y, r = V.list [x, y] ∧ Ints x (dg (m / n)) ∧ Ints y (dg (m % n))) ∧ Comes ref01_divide.K ref01_divide.f ref01_divide.s3 ⟨[((R / n : Nat) : Int), ((R / n : Nat) : Int)] ++ z ++ [(i : Int)], [], [a, b, q, q, r4]⟩ r := by
          intro z hz7
          obtain ⟨z0, z1, z2, z3, z4, z5, z6, rfl⟩ : ∃ z0 z1 z2 z3 z4 z5 z6, z = [z0, z1, z2, z3, z4, z5, z6] := by
            match z, hz7 with
            | [z0, z1, z2, z3, z4, z5, z6], _ => exact ⟨z0, z1, z2, z3, z4, z5, z6, rfl⟩
          refine ⟨r, hr1, Comes.step progOk ref01_divide.p11 [r5, r6, r7] ?_ hr2⟩
          simp only [EvOk, E.b, E.i, E.v, Env.ext, List.cons_append, List.nil_append, List.getD_cons_zero, List.getD_cons_succ, List.append_nil, ltB_iff, leB_iff, eqB_not, Bool.and_eq_true, Bool.not_eq_true', ltB_not, leB_not, and_true]
          exact ⟨by omega, by omega, by omega, r52, r62, r72, by omega⟩
        have S3' : ∀ z : List Int, z.length = 7 → ∃ r, (∃ x y, r = V.list [x, y] ∧ Ints x (dg (m / n)) ∧ Ints y (dg (m % n))) ∧ Comes ref01_divide.K ref01_divide.f ref01_divide.s3 ⟨[((R / pw (N - 1) / (n / pw (N - 1) + 1) : Nat) : Int), ((R / pw (N - 1) / (n / pw (N - 1)) : Nat) : Int)] ++ z ++ [(i : Int)], [], [a, b, q, q, r4]⟩ r := fun z hz7 => divide_search hn hb r41 hR (by omega) z hz7 i (S3 z hz7) _ _ _ _ _ (Nat.sub_add_cancel (Nat.le_trans hlo hhi)) rfl rfl hlo hhi hcap
        have hTb : n / pw (N - 1) < 100000000 := by
          rw [Nat.div_lt_iff_lt_mul hE]
          rcases Nat.eq_zero_or_pos N with z | z
          · subst z; rw [← hN, pw_succ, pw_zero] at hnl; rw [pw_zero]; omega
          · have : pw (N + 1) = 10000 * (10000 * pw (N - 1)) := by rw [pw_succ, ← pw_succ (N - 1), show N - 1 + 1 = N from by omega]
            rw [← hN] at hnl; omega
        have hFb : R / pw (N - 1) < 1000000000000 := by
          rw [Nat.div_lt_iff_lt_mul hE]
          have : n < 100000000 * pw (N - 1) := by rwa [Nat.div_lt_iff_lt_mul hE] at hTb
          omega
        have tq : ∀ x y : Nat, ((x : Int)).tdiv (y : Int) = ((x / y : Nat) : Int) := by
          intro x y; rw [Int.tdiv_eq_ediv_of_nonneg (by omega)]; rfl
        have mx : maxI 0 ((b.len : Int) - 1 - 1) = ((N - 1 : Nat) : Int) := by unfold maxI; split <;> omega
        have S2 : ∃ r, (∃ x y, r = V.list [x, y] ∧ Ints x (dg (m / n)) ∧ Ints y (dg (m % n))) ∧ Comes ref01_divide.K ref01_divide.f ref01_divide.s2 ⟨[((n / pw (N - 1) : Nat) : Int), ((R / pw (N - 1) : Nat) : Int), ((N - 1 : Nat) : Int) - 1, (i : Int)], [], [a, b, q, q, r4]⟩ r := by
          generalize hTT : n / pw (N - 1) = T at *
          generalize hFF : R / pw (N - 1) = F at *
          have e1 := tq F (T + 1)
          have e2 := tq F T
          rw [Int.natCast_add] at e1
          have b1 : F / (T + 1) ≤ F := Nat.div_le_self _ _
          have b2 : F / T ≤ F := Nat.div_le_self _ _
          obtain ⟨r, h1, h2⟩ := S3' [(F : Int), (T : Int), (T : Int) + 1, (F : Int).tdiv ((T : Int) + 1), (F : Int), (T : Int), (F : Int).tdiv (T : Int)] rfl
          rw [← e1, ← e2] at h2
          refine ⟨r, h1, Comes.step progOk ref01_divide.p8 [] ?_ h2⟩
          simp only [EvOk, E.b, E.i, E.v, Env.ext, List.getD_cons_zero, List.getD_cons_succ, List.append_nil, ltB_iff, leB_iff, eqB_not, Bool.and_eq_true, Bool.not_eq_true', ltB_not, leB_not, and_true, mx, e2]
          simp only [Int.natCast_one] at e1
          rw [e1]
          generalize F / (T + 1) = X at *
          generalize F / T = Y at *
          omega
        obtain ⟨r', h1, h2⟩ := divide_first hN hb r41 hR (by omega) (i : Int) S2 (N + 2 - (N - 1)) (N + 2) 0 0 ((b.len - 1) + 1) (by omega) (Nat.le_refl _) (by
            rw [Nat.div_eq_of_lt (by rw [pw_succ]; rw [← hN] at hnl; omega)]; rfl) (by
            rw [Nat.div_eq_of_lt (by rw [pw_succ]; rw [← hN] at hnl; omega)]; rfl) (by omega)
        refine ⟨r', h1, Comes.step progOk ref01_divide.p2 [r4] ?_ h2⟩
        simp [EvOk, E.b, E.i, E.v, Env.ext, Sub.ev, ltB_iff, leB_iff, eqB_iff, eqB_not, ltB_not, leB_not]
        exact ⟨by omega, by omega, r42, by omega⟩
    have hlen : (a.len - (b.len - 1)) = (((dg m).length - N : Nat) : Int) := by omega
    have I0 : Ints (V.rep (a.len - (b.len - 1)) (.int 0)) (List.replicate ((dg m).length - N) 0) := by rw [hlen]; exact Ints.rep _ 0
    have I1 : Ints ((V.list []).app (a.sub (a.len - (b.len - 1)) a.len)) (dg (m / pw ((dg m).length - N) % n)) := by
      have h1 := ha.sub (i := (dg m).length - N) (j := (dg m).length) (by omega) (Nat.le_refl _)
      rw [List.take_length, dg_drop] at h1
      have h2 : m / pw ((dg m).length - N) < n := by
        refine Nat.lt_of_lt_of_le ?_ hNp
        rw [Nat.div_lt_iff_lt_mul (pw_pos _), ← pw_add, show N + ((dg m).length - N) = (dg m).length from by omega]; exact hml
      rw [Nat.mod_eq_of_lt h2, hlen, la]
      have := ints_emp.app h1
      simpa using this
    obtain ⟨r, ⟨x, y, rfl, h1, h2⟩, h3⟩ := outer ((dg m).length - N) ((V.rep (a.len - (b.len - 1)) (.int 0)).len - 1) .nil _ _ _ (Nat.le_refl _) (by rw [I0.len]; simp) I1 I0 (by intro x hx; have := List.eq_of_mem_replicate hx; omega) (by simp) (fun t ht => rep_get ht) (by
      have h2 : m / pw ((dg m).length - N) < n := by
        refine Nat.lt_of_lt_of_le ?_ hNp
        rw [Nat.div_lt_iff_lt_mul (pw_pos _), ← pw_add, show N + ((dg m).length - N) = (dg m).length from by omega]; exact hml
      rw [val_rep, Nat.div_eq_of_lt h2, Nat.mul_zero])
    refine ⟨x, y, h1, h2, Fn.of (C := ref01_divide.K) ref01_divide.b ?_⟩
    refine Comes.step progOk ref01_divide.p1 [] ?_ h3
    have c1 := I0.len
    have h4 := (ha.sub (i := (dg m).length - N) (j := (dg m).length) (by omega) (Nat.le_refl _)).len
    rw [← hlen, ← la] at h4
    simp only [List.length_replicate] at c1
    simp only [List.length_drop, List.length_take] at h4
    simp only [EvOk, E.b, E.i, E.v, Env.ext, List.getD_cons_zero, List.getD_cons_succ, List.append_nil, ltB_iff, leB_iff, Bool.and_eq_true, Bool.not_eq_true', ltB_not, leB_not, and_true, c1, h4]
    omega
end X
namespace X
open Go Go.Abs Go.Sym
set_option linter.unusedVariables false
set_option linter.unusedSimpArgs false

theorem gcd10_loop (a0 b0 : V) : ∀ (n m : Nat) (a b : V), Ints a (dg m) → Ints b (dg n) → (dg m).length ≤ 50000000 → (dg n).length ≤ 50000000 → ∃ r, Ints r (dg (Nat.gcd m n)) ∧ Comes ref01_gcd.K ref01_gcd.f ref01_gcd.s1 ⟨[], [], [a0, b0, a, b]⟩ r := by
  intro n
  induction n using Nat.strongRecOn with
  | _ n ih =>
    intro m a b ha hb lm ln
    have lb := hb.len
    by_cases h0 : n = 0
    · subst h0
      refine ⟨a, by simpa using ha, Comes.last progOk ref01_gcd.p2 [] ?_ ?_⟩
      · have : b.len = 0 := by simpa [dg_zero] using lb
        simp [EvOk, E.b, E.i, E.v, Env.ext, Sub.ev, ltB_iff, leB_iff, eqB_iff, eqB_not, ltB_not, leB_not]; omega
      · simp [EvOk, E.b, E.i, E.v, Env.ext, Sub.ev, ltB_iff, leB_iff, eqB_iff, eqB_not, ltB_not, leB_not]
    · obtain ⟨x, y, h1, h2, h3⟩ := divide_spec ha hb (by omega) lm ln
      have hlt : m % n < n := Nat.mod_lt _ (by omega)
      have hl : (dg (m % n)).length ≤ (dg n).length := dg_len (by have := val_lt (ok_dg n); rw [val_dg] at this; omega)
      obtain ⟨r, r1, r2⟩ := ih (m % n) hlt n b y hb h2 ln (by omega)
      rw [Nat.gcd_comm n, ← Nat.gcd_rec, Nat.gcd_comm n] at r1
      refine ⟨r, r1, Comes.step progOk ref01_gcd.p1 [.list [x, y]] ?_ r2⟩
      simp [EvOk, E.b, E.i, E.v, Env.ext, Sub.ev, ltB_iff, leB_iff, eqB_iff, eqB_not, ltB_not, leB_not]
      refine ⟨?_, h3⟩
      rw [lb]
      have : 0 < (dg n).length := (dg_lt n 0).2 (by rw [pw_zero]; simp; omega)
      omega
theorem gcd10_spec {a b : V} {m n : Nat} (ha : Ints a (dg m)) (hb : Ints b (dg n)) (lm : (dg m).length ≤ 50000000) (ln : (dg n).length ≤ 50000000) : ∃ r, Ints r (dg (Nat.gcd m n)) ∧ Fn prog ref01_gcd.f [a, b] r := by
  obtain ⟨r, r1, r2⟩ := gcd10_loop a b n m a b ha hb lm ln
  exact ⟨r, r1, Fn.of (C := ref01_gcd.K) ref01_gcd.b (Comes.step progOk ref01_gcd.p0 [] trivial r2)⟩

def big : Nat := 4611686018427387903
theorem value_loop {a x y : V} {m : Nat} (ha : Ints a (dg m)) (hm : m ≤ big) : ∀ (j : Nat) (s i : Int), j ≤ (dg m).length → i = (j : Int) - 1 → s = ((m / pw j : Nat) : Int) → Comes ref01_value.K ref01_value.f ref01_value.s1 ⟨[s, i], [], [a, x, y]⟩ (.list [.int m, .bool true]) := by
  have la := ha.len
  intro j
  induction j with
  | zero =>
    intro s i hj hi hs
    subst hi hs
    refine Comes.last progOk ref01_value.p3 [] ?_ ?_
    · simp [EvOk, E.b, E.i, E.v, Env.ext, Sub.ev, ltB_iff, leB_iff, eqB_iff, eqB_not, ltB_not, leB_not]
    · simp [EvOk, E.b, E.i, E.v, Env.ext, Sub.ev, ltB_iff, leB_iff, eqB_iff, eqB_not, ltB_not, leB_not]; simp [V.snoc, V.els, pw_zero]
  | succ j ih =>
    intro s i hj hi hs
    have hi' : i = (j : Int) := by omega
    subst hi' hs
    have g1 := dg_get m j
    rw [if_neg ((dg_lt m j).1 (by omega))] at g1
    have ga := ha.get g1
    have dm := div_pw m j
    have am := Nat.div_add_mod (m / pw j) 10000
    rw [← dm] at am
    have hd : m / pw j % 10000 < 10000 := Nat.mod_lt _ (by omega)
    have hle : m / pw j ≤ big := Nat.le_trans (Nat.div_le_self _ _) hm
    generalize m / pw (j + 1) = X at *
    generalize hY : m / pw j % 10000 = Y at *
    have hb5 : (dg m).length ≤ 5 := dg_len (by unfold pw; unfold big at hm; omega)
    unfold big at hle
    refine Comes.step progOk ref01_value.p2 [] ?_ (ih (10000 * (X : Int) + (a.get (j : Int)).toI) ((j : Int) - 1) (by omega) rfl (by rw [ga, ← am, Int.natCast_add, Int.natCast_mul]; rfl))
    simp only [EvOk, E.b, E.i, E.v, Env.ext, List.getD_cons_zero, List.getD_cons_succ, List.append_nil, ltB_iff, leB_iff, Bool.and_eq_true, Bool.not_eq_true', ltB_not, leB_not, and_true, ga]
    omega
theorem value_spec {a : V} {m : Nat} (ha : Ints a (dg m)) (lm : (dg m).length ≤ 50000000) : Fn prog ref01_value.f [a] (if m ≤ big then .list [.int m, .bool true] else .list [.int 0, .bool false]) := by
  have la := ha.len
  obtain ⟨r1, r11, r12⟩ := digits_spec 4611686018427387903 (by omega) (by omega)
  have hc := compare_spec ha r11 (by omega)
  have hbig : ((4611686018427387903 : Int).natAbs) = big := rfl
  rw [hbig] at hc
  clear hbig
  clear r11
  by_cases h : m ≤ big
  · rw [if_pos h]
    refine Fn.of (C := ref01_value.K) ref01_value.b (Comes.step progOk ref01_value.p1 [r1, .int (cmpN m big)] ?_ (value_loop ha h (dg m).length 0 (a.len - 1) (Nat.le_refl _) (by rw [la]) ?_))
    · simp only [EvOk, E.b, E.i, E.v, Env.ext, List.map_cons, List.map_nil, List.cons_append, List.nil_append, List.getD_cons_zero, List.getD_cons_succ, List.append_nil, ltB_iff, leB_iff, Bool.and_eq_true, Bool.not_eq_true', ltB_not, leB_not, and_true]
      refine ⟨r12, hc, ?_, by omega⟩
      show cmpN m big ≤ 0
      clear hc r12; unfold cmpN; split <;> (try split) <;> omega
    · rw [Nat.div_eq_of_lt]; · rfl
      have := val_lt (ok_dg m); rwa [val_dg] at this
  · rw [if_neg h]
    refine Fn.of (C := ref01_value.K) ref01_value.b (Comes.last progOk ref01_value.p0 [r1, .int (cmpN m big)] ?_ ?_)
    · simp only [EvOk, E.b, E.i, E.v, Env.ext, List.map_cons, List.map_nil, List.cons_append, List.nil_append, List.getD_cons_zero, List.getD_cons_succ, List.append_nil, ltB_iff, leB_iff, Bool.and_eq_true, Bool.not_eq_true', ltB_not, leB_not, and_true]
      refine ⟨r12, hc, ?_⟩
      show 0 < cmpN m big
      clear hc r12; unfold cmpN; split <;> (try split) <;> omega
    · simp [EvOk, E.b, E.i, E.v, Env.ext, Sub.ev, ltB_iff, leB_iff, eqB_iff, eqB_not, ltB_not, leB_not]; simp [V.snoc, V.els]

/-- A fraction. -/
def qV (neg : Bool) (n d : Nat) : V := .list [.int (if neg then -(n : Int) else n), .int d]
/-- What a numerator and a denominator make. -/
def madeV (neg : Bool) (n d : Nat) : V :=
  if n / n.gcd d ≤ big ∧ d / n.gcd d ≤ big then .list [qV neg (n / n.gcd d) (d / n.gcd d), .bool true] else .list [.list [.int 0, .int 0], .bool false]
theorem made_spec {a b : V} {m n : Nat} {neg : Bool} (ha : Ints a (dg m)) (hb : Ints b (dg n)) (hn : 0 < n) (lm : (dg m).length ≤ 50000000) (ln : (dg n).length ≤ 50000000) : Fn prog ref01_made.f [.bool neg, a, b] (madeV neg m n) := by
  obtain ⟨r3, r31, r32⟩ := gcd10_spec ha hb lm ln
  have hg : 0 < m.gcd n := Nat.gcd_pos_of_pos_right _ hn
  have lg : (dg (m.gcd n)).length ≤ (dg n).length := dg_len (by
    have := val_lt (ok_dg n); rw [val_dg] at this
    exact Nat.lt_of_le_of_lt (Nat.gcd_le_right _ hn) this)
  obtain ⟨x4, y4, x41, y41, r4⟩ := divide_spec ha r31 hg lm (by omega)
  obtain ⟨x5, y5, x51, y51, r5⟩ := divide_spec hb r31 hg ln (by omega)
  have l4 : (dg (m / m.gcd n)).length ≤ (dg m).length := dg_len (by
    have := val_lt (ok_dg m); rw [val_dg] at this
    exact Nat.lt_of_le_of_lt (Nat.div_le_self _ _) this)
  have l5 : (dg (n / m.gcd n)).length ≤ (dg n).length := dg_len (by
    have := val_lt (ok_dg n); rw [val_dg] at this
    exact Nat.lt_of_le_of_lt (Nat.div_le_self _ _) this)
  have r6 := value_spec x41 (by omega)
  have r7 := value_spec x51 (by omega)
  unfold madeV
  by_cases h1 : m / m.gcd n ≤ big
  · rw [if_pos h1] at r6
    by_cases h2 : n / m.gcd n ≤ big
    · rw [if_pos h2] at r7
      rw [if_pos ⟨h1, h2⟩]
      generalize m / m.gcd n = M at *
      generalize n / m.gcd n = N at *
      cases neg with
      | true =>
        refine Fn.of (C := ref01_made.K) ref01_made.b (Comes.last progOk ref01_made.p2 [r3, .list [x4, y4], .list [x5, y5], .list [.int M, .bool true], .list [.int N, .bool true]] ?_ ?_)
        · unfold big at h1 h2
          simp [EvOk, E.b, E.i, E.v, Env.ext, Sub.ev, ltB_iff, leB_iff, eqB_iff, eqB_not, ltB_not, leB_not]
          exact ⟨r32, r4, r5, r6, r7, rfl, rfl, rfl, by simp [V.get, V.els, V.toI]; omega, by simp [V.get, V.els, V.toI]⟩
        · simp [EvOk, E.b, E.i, E.v, Env.ext, Sub.ev, ltB_iff, leB_iff, eqB_iff, eqB_not, ltB_not, leB_not]; simp [V.snoc, V.els, V.get, V.toI, qV]
      | false =>
        refine Fn.of (C := ref01_made.K) ref01_made.b (Comes.last progOk ref01_made.p3 [r3, .list [x4, y4], .list [x5, y5], .list [.int M, .bool true], .list [.int N, .bool true]] ?_ ?_)
        · simp [EvOk, E.b, E.i, E.v, Env.ext, Sub.ev, ltB_iff, leB_iff, eqB_iff, eqB_not, ltB_not, leB_not]
          exact ⟨r32, r4, r5, r6, r7, rfl, rfl, rfl⟩
        · simp [EvOk, E.b, E.i, E.v, Env.ext, Sub.ev, ltB_iff, leB_iff, eqB_iff, eqB_not, ltB_not, leB_not]; simp [V.snoc, V.els, V.get, V.toI, qV]
    · rw [if_neg h2] at r7
      rw [if_neg (fun h => h2 h.2)]
      refine Fn.of (C := ref01_made.K) ref01_made.b (Comes.last progOk ref01_made.p1 [r3, .list [x4, y4], .list [x5, y5], .list [.int (m / m.gcd n : Nat), .bool true], .list [.int 0, .bool false]] ?_ ?_)
      · generalize m / m.gcd n = M at *
        generalize n / m.gcd n = N at *
        simp [EvOk, E.b, E.i, E.v, Env.ext, Sub.ev, ltB_iff, leB_iff, eqB_iff, eqB_not, ltB_not, leB_not]
        exact ⟨r32, r4, r5, r6, r7, rfl, rfl⟩
      · simp [EvOk, E.b, E.i, E.v, Env.ext, Sub.ev, ltB_iff, leB_iff, eqB_iff, eqB_not, ltB_not, leB_not]; simp [V.snoc, V.els]
  · rw [if_neg h1] at r6
    rw [if_neg (fun h => h1 h.1)]
    generalize (if n / m.gcd n ≤ big then V.list [.int (n / m.gcd n : Nat), .bool true] else V.list [.int 0, .bool false]) = v7 at r7
    refine Fn.of (C := ref01_made.K) ref01_made.b (Comes.last progOk ref01_made.p0 [r3, .list [x4, y4], .list [x5, y5], .list [.int 0, .bool false], v7] ?_ ?_)
    · simp [EvOk, E.b, E.i, E.v, Env.ext, Sub.ev, ltB_iff, leB_iff, eqB_iff, eqB_not, ltB_not, leB_not]
      exact ⟨r32, r4, r5, r6, r7, rfl⟩
    · simp [EvOk, E.b, E.i, E.v, Env.ext, Sub.ev, ltB_iff, leB_iff, eqB_iff, eqB_not, ltB_not, leB_not]; simp [V.snoc, V.els]
def negQ (n d : Int) : Bool := !((decide (n < 0)) == (decide (d < 0)))
def madeI (n d : Int) : V := madeV (negQ n d) n.natAbs d.natAbs
theorem Make10_spec {n d : Int} (hd : d ≠ 0) (h1 : -9223372036854775808 ≤ n) (h2 : n ≤ 9223372036854775807) (h3 : -9223372036854775808 ≤ d) (h4 : d ≤ 9223372036854775807) : Fn prog ref01_Make.f [.int n, .int d] (madeI n d) := by
  obtain ⟨a, a1, a2⟩ := digits_spec n h1 h2
  obtain ⟨b, b1, b2⟩ := digits_spec d h3 h4
  have l1 : (dg n.natAbs).length ≤ 5 := dg_len (by unfold pw; omega)
  have l2 : (dg d.natAbs).length ≤ 5 := dg_len (by unfold pw; omega)
  have r := made_spec (neg := negQ n d) a1 b1 (by omega) (by omega) (by omega)
  refine Fn.of (C := ref01_Make.K) ref01_Make.b (Comes.last progOk ref01_Make.p0 [a, b, madeV (negQ n d) n.natAbs d.natAbs] ?_ ?_)
  · simp [EvOk, E.b, E.i, E.v, Env.ext, Sub.ev, ltB_iff, leB_iff, eqB_iff, eqB_not, ltB_not, leB_not]
    exact ⟨a2, b2, r⟩
  · simp [EvOk, E.b, E.i, E.v, Env.ext, Sub.ev, ltB_iff, leB_iff, eqB_iff, eqB_not, ltB_not, leB_not]
    unfold madeI madeV
    split <;> simp [V.snoc, V.els, V.get, V.toI, V.toB, qV]
def ofQ (n d : Int) : V :=
  if n.natAbs / n.natAbs.gcd d.natAbs ≤ big ∧ d.natAbs / n.natAbs.gcd d.natAbs ≤ big then qV (negQ n d) (n.natAbs / n.natAbs.gcd d.natAbs) (d.natAbs / n.natAbs.gcd d.natAbs) else .list [.int 0, .int 0]
theorem Of_spec {n d : Int} (hd : d ≠ 0) (h1 : -9223372036854775808 ≤ n) (h2 : n ≤ 9223372036854775807) (h3 : -9223372036854775808 ≤ d) (h4 : d ≤ 9223372036854775807) : Fn prog ref01_Of.f [.int n, .int d] (ofQ n d) := by
  have r := Make10_spec hd h1 h2 h3 h4
  refine Fn.of (C := ref01_Of.K) ref01_Of.b (Comes.last progOk ref01_Of.p0 [madeI n d] ?_ ?_)
  · simp [EvOk, E.b, E.i, E.v, Env.ext, Sub.ev, ltB_iff, leB_iff, eqB_iff, eqB_not, ltB_not, leB_not]
    exact r
  · simp [EvOk, E.b, E.i, E.v, Env.ext, Sub.ev, ltB_iff, leB_iff, eqB_iff, eqB_not, ltB_not, leB_not]
    unfold madeI madeV ofQ
    split <;> simp [V.snoc, V.els, V.get, V.toI, V.toB, qV]
end X
namespace X
open Go Go.Abs Go.Sym
set_option linter.unusedVariables false
set_option linter.unusedSimpArgs false

/-- conditions and results, worked out -/

theorem size_spec (n : Nat) (h : n ≤ 9223372036854775807) : Fn prog frac_size.f [.int n] (.int n) := by
  refine Fn.of (C := frac_size.K) frac_size.b (Comes.last progOk frac_size.p1 [] ?_ ?_)
  · simp [EvOk, E.b, E.i, E.v, Env.ext, Sub.ev, ltB_iff, leB_iff, eqB_iff, eqB_not, ltB_not, leB_not, V.get, V.els, V.toI, V.toB, V.snoc, V.len]
  · simp [EvOk, E.b, E.i, E.v, Env.ext, Sub.ev, ltB_iff, leB_iff, eqB_iff, eqB_not, ltB_not, leB_not, V.get, V.els, V.toI, V.toB, V.snoc, V.len]
    simp [IntKind.wrap, IntKind.signed, IntKind.bits]
    omega
theorem Make_spec {n d : Nat} (hd : 0 < d) (h1 : n ≤ big) (h2 : d ≤ big) : Fn prog frac_Make.f [.int n, .int d] (.list [qV false (n / n.gcd d) (d / n.gcd d), .int 0]) := by
  have hg : 0 < n.gcd d := Nat.gcd_pos_of_pos_right _ hd
  have q1 : n / n.gcd d ≤ n := Nat.div_le_self _ _
  have q2 : d / n.gcd d ≤ d := Nat.div_le_self _ _
  unfold big at h1 h2
  have s1 := size_spec n (by omega)
  have s2 := size_spec d (by omega)
  have s3 := gcd_spec n d
  have t1 : ((n : Int)).tdiv ((n.gcd d : Nat) : Int) = ((n / n.gcd d : Nat) : Int) := by rw [Int.tdiv_eq_ediv_of_nonneg (by omega)]; rfl
  have t2 : ((d : Int)).tdiv ((n.gcd d : Nat) : Int) = ((d / n.gcd d : Nat) : Int) := by rw [Int.tdiv_eq_ediv_of_nonneg (by omega)]; rfl
  have hg' : ¬ ((n.gcd d : Nat) : Int) = 0 := by omega
  generalize n.gcd d = g at *
  generalize n / g = a at *
  generalize d / g = b at *
  by_cases h0 : n = 0
  · subst h0
    refine Fn.of (C := frac_Make.K) frac_Make.b (Comes.last progOk frac_Make.p7 [.int (0 : Nat), .int d, .int g, .int (0 : Nat), .int d] ?_ ?_)
    · simp only [EvOk, E.b, E.i, E.v, Env.ext, List.map_cons, List.map_nil, List.cons_append, List.nil_append, List.getD_cons_zero, List.getD_cons_succ, V.toI, ltB_iff, leB_iff, eqB_iff, eqB_not, Bool.and_eq_true, Bool.not_eq_true', Bool.not_eq_false', ltB_not, leB_not, and_true, t1, t2]
      refine ⟨by omega, s1, s2, s3, by omega, s1, hg', by omega, s2, hg', ?_⟩
      omega
    · simp only [E.b, E.i, E.v, Env.ext, List.cons_append, List.nil_append, List.getD_cons_zero, List.getD_cons_succ, V.toI, t1, t2, V.snoc, V.els, qV]
      rfl
  · refine Fn.of (C := frac_Make.K) frac_Make.b (Comes.last progOk frac_Make.p4 [.int n, .int d, .int g, .int n, .int d] ?_ ?_)
    · simp only [EvOk, E.b, E.i, E.v, Env.ext, List.map_cons, List.map_nil, List.cons_append, List.nil_append, List.getD_cons_zero, List.getD_cons_succ, V.toI, ltB_iff, leB_iff, eqB_iff, eqB_not, Bool.and_eq_true, Bool.not_eq_true', Bool.not_eq_false', ltB_not, leB_not, and_true, t1, t2]
      refine ⟨by omega, s1, s2, s3, by omega, s1, hg', by omega, s2, hg', by omega, by omega, by omega, ?_, by omega, by omega⟩
      have e1 : ltB (n : Int) 0 = false := by rw [ltB_not]; omega
      have e2 : ltB (d : Int) 0 = false := by rw [ltB_not]; omega
      simp [e1, e2]
    · simp only [E.b, E.i, E.v, Env.ext, List.cons_append, List.nil_append, List.getD_cons_zero, List.getD_cons_succ, V.toI, t1, t2, V.snoc, V.els, qV]
      rfl
theorem power_spec (a n : Nat) (hn : n ≤ 11) (ha : a ≤ 20) : Fn prog lift_power.f [.int a, .int n] (.int (a ^ n : Nat)) := by
  have loop : ∀ (t i : Nat) (i' c : Int), t + i = n → i' = i → c = ((a ^ i : Nat) : Int) → Comes lift_power.K lift_power.f lift_power.s1 ⟨[c, i'], [], [.int a, .int n]⟩ (.int (a ^ n : Nat)) := by
    intro t
    induction t with
    | zero =>
      intro i i' c ht hi hc
      have : i = n := by omega
      subst this hi hc
      refine Comes.last progOk lift_power.p2 [] ?_ ?_
      · simp [EvOk, E.b, E.i, E.v, Env.ext, Sub.ev, ltB_iff, leB_iff, eqB_iff, eqB_not, ltB_not, leB_not, V.get, V.els, V.toI, V.toB, V.snoc, V.len]
      · simp [EvOk, E.b, E.i, E.v, Env.ext, Sub.ev, ltB_iff, leB_iff, eqB_iff, eqB_not, ltB_not, leB_not, V.get, V.els, V.toI, V.toB, V.snoc, V.len]
    | succ t ih =>
      intro i i' c ht hi hc
      subst hi hc
      have hb : a ^ (i + 1) ≤ 20 ^ 11 := Nat.le_trans (Nat.pow_le_pow_left ha _) (Nat.pow_le_pow_right (by omega) (by omega))
      have hm : ((a ^ i : Nat) : Int) * (a : Int) = ((a ^ (i + 1) : Nat) : Int) := by rw [Nat.pow_succ, Int.natCast_mul]
      refine Comes.step progOk lift_power.p1 [] ?_ (ih (i + 1) ((i : Int) + 1) (((a ^ i : Nat) : Int) * (a : Int)) (by omega) (by omega) hm)
      simp only [EvOk, E.b, E.i, E.v, Env.ext, List.cons_append, List.nil_append, List.append_nil, List.getD_cons_zero, List.getD_cons_succ, V.toI, ltB_iff, leB_iff, Bool.and_eq_true, and_true, hm]
      generalize a ^ (i + 1) = x at *
      omega
  exact Fn.of (C := lift_power.K) lift_power.b (Comes.step progOk lift_power.p0 [] trivial (loop n 0 0 1 (by omega) rfl rfl))
end X
namespace X
open Go Go.Abs Go.Sym
set_option linter.unusedVariables false
set_option linter.unusedSimpArgs false

/-- A valid lifted model. -/
structure LMod (R : V) (G n o k : Nat) (rows : List (List Nat)) : Prop where
  g1 : 1 ≤ G
  g2 : G ≤ 20
  n1 : 1 ≤ n
  n2 : n ≤ 10
  o1 : o ≤ G
  k1 : 2 ≤ k
  k2 : k ≤ 4
  len : rows.length = n + 1
  rlen : R.els.length = n + 1
  row : ∀ (j : Nat) (r : List Nat), rows[j]? = some r → Ints (R.get (j : Int)) r ∧ r.length = k ∧ r.sum = G
def lv (G n o : Nat) (R : V) : V := .list [.int G, .int n, .int o, R]
def cv (l : V) (z e : Nat) (c : Int) : V := .list [l, .int z, .int e, .int c]

theorem toI_int (z : Int) : (V.int z).toI = z := rfl
theorem toB_bool (b : Bool) : (V.bool b).toB = b := rfl
theorem sum_take (r : List Nat) (i d : Nat) (h : r[i]? = some d) : (r.take (i + 1)).sum = (r.take i).sum + d := by
  rw [List.take_add_one, h]; simp
theorem le_sum {r : List Nat} {d : Nat} (h : d ∈ r) : d ≤ r.sum := by
  induction r with
  | nil => cases h
  | cons a r ih =>
    simp only [List.sum_cons]
    rcases List.mem_cons.1 h with rfl | h
    · omega
    · have := ih h; omega
theorem take_sum_le (r : List Nat) (i : Nat) : (r.take i).sum ≤ r.sum := by
  conv => rhs; rw [← List.take_append_drop i r, List.sum_append]
  omega
theorem valid_spec {R : V} {G n o k : Nat} {rows : List (List Nat)} (M : LMod R G n o k rows) : Fn prog lift_valid.f [lv G n o R] (.bool true) := by
  obtain ⟨g1, g2, n1, n2, o1, k1, k2, len, rlen, row⟩ := M
  have hR : R.len = (n + 1 : Int) := by simp [V.len, rlen]
  obtain ⟨r0, hr0⟩ : ∃ r, rows[0]? = some r := ⟨_, List.getElem?_eq_getElem (by omega)⟩
  have row0 := row 0 r0 hr0
  have l0 := row0.1.len
  have l0' : (R.get 0).len = k := by rw [row0.2.1] at l0; exact l0
  have inner : ∀ (j : Nat) (r : List Nat), rows[j]? = some r → (Comes lift_valid.K lift_valid.f lift_valid.s1 ⟨[(j : Int) + 1], [], [lv G n o R]⟩ (.bool true)) → ∀ (t i : Nat) (s' i' : Int), t + i = r.length → i' = i → s' = ((r.take i).sum : Nat) → Comes lift_valid.K lift_valid.f lift_valid.s2 ⟨[s', i', (j : Int), (R.get (j : Int)).len], [], [lv G n o R, R.get (j : Int), R.get (j : Int)]⟩ (.bool true) := by
    intro j r hr H t
    obtain ⟨hi1, hi2, hi3⟩ := row j r hr
    have hlen := hi1.len
    have hj : j < rows.length := (List.getElem?_eq_some_iff.1 hr).1
    induction t with
    | zero =>
      intro i s' i' ht hi hs
      have : i = r.length := by omega
      subst this hi hs
      rw [List.take_length, hi3]
      refine Comes.step progOk lift_valid.p17 [] ?_ H
      simp only [EvOk, E.b, E.i, E.v, Env.ext, List.cons_append, List.nil_append, List.append_nil, List.getD_cons_zero, List.getD_cons_succ, V.toI, lv, ltB_iff, leB_iff, eqB_iff, ltB_not, Bool.not_eq_true', Bool.not_eq_false', Bool.not_not, Bool.and_eq_true, and_true]
      have e1 : (V.list [V.int ↑G, V.int ↑n, V.int ↑o, R]).get 3 = R := rfl
      have e2 : (V.list [V.int ↑G, V.int ↑n, V.int ↑o, R]).get 0 = .int G := rfl
      simp only [e1, e2, l0', hlen, hi2, true_and, hi3]
      omega
    | succ t ih =>
      intro i s' i' ht hi hs
      subst hi hs
      obtain ⟨d, hd⟩ : ∃ e, r[i]? = some e := ⟨_, List.getElem?_eq_getElem (by omega)⟩
      have gd := hi1.get hd
      have hdG : d ≤ G := hi3 ▸ le_sum (List.mem_of_getElem? hd)
      have hs1 := sum_take r i d hd
      have hs2 := take_sum_le r (i + 1)
      refine Comes.step progOk lift_valid.p14 [] ?_ (ih (i + 1) (((r.take i).sum : Nat) + ((R.get (j : Int)).get (i : Int)).toI) ((i : Int) + 1) (by omega) (by omega) (by rw [gd, hs1]; omega))
      simp only [EvOk, E.b, E.i, E.v, Env.ext, List.cons_append, List.nil_append, List.append_nil, List.getD_cons_zero, List.getD_cons_succ, lv, ltB_iff, leB_iff, eqB_iff, ltB_not, Bool.not_eq_true', Bool.not_eq_false', Bool.not_not, Bool.and_eq_true, and_true]
      have e2 : ((V.list [V.int ↑G, V.int ↑n, V.int ↑o, R]).get 0).toI = G := rfl
      simp only [e2, gd, hlen]
      omega
  have outer : ∀ (t j : Nat) (j' : Int), t + j = n + 1 → j' = j → Comes lift_valid.K lift_valid.f lift_valid.s1 ⟨[j'], [], [lv G n o R]⟩ (.bool true) := by
    intro t
    induction t with
    | zero =>
      intro j j' ht hj
      subst hj
      refine Comes.last progOk lift_valid.p11 [] ?_ ?_
      · simp only [EvOk, E.b, E.i, E.v, Env.ext, List.cons_append, List.nil_append, List.append_nil, List.getD_cons_zero, List.getD_cons_succ, lv, Bool.not_eq_true', ltB_not, and_true]
        have e1 : (V.list [V.int ↑G, V.int ↑n, V.int ↑o, R]).get 3 = R := rfl
        simp only [e1, hR]
        omega
      · simp [EvOk, E.b, E.i, E.v, Env.ext, Sub.ev, ltB_iff, leB_iff, eqB_iff, eqB_not, ltB_not, leB_not]
    | succ t ih =>
      intro j j' ht hj
      subst hj
      obtain ⟨r, hr⟩ : ∃ e, rows[j]? = some e := ⟨_, List.getElem?_eq_getElem (by omega)⟩
      have k := inner j r hr (ih (j + 1) ((j : Int) + 1) (by omega) (by omega)) r.length 0 0 0 (by omega) rfl rfl
      refine Comes.step progOk lift_valid.p10 [] ?_ k
      simp only [EvOk, E.b, E.i, E.v, Env.ext, List.cons_append, List.nil_append, List.append_nil, List.getD_cons_zero, List.getD_cons_succ, lv, ltB_iff, leB_iff, Bool.and_eq_true, and_true]
      have e1 : (V.list [V.int ↑G, V.int ↑n, V.int ↑o, R]).get 3 = R := rfl
      simp only [e1, hR]
      omega
  refine Fn.of (C := lift_valid.K) lift_valid.b (Comes.step progOk lift_valid.p9 [] ?_ (outer (n + 1) 0 0 (by omega) rfl))
  simp only [EvOk, E.b, E.i, E.v, Env.ext, List.cons_append, List.nil_append, List.append_nil, List.getD_cons_zero, List.getD_cons_succ, lv, ltB_iff, leB_iff, eqB_iff, ltB_not, Bool.not_eq_true', Bool.not_eq_false', Bool.not_not, Bool.and_eq_true, and_true]
  have e1 : (V.list [V.int ↑G, V.int ↑n, V.int ↑o, R]).get 3 = R := rfl
  have e2 : ((V.list [V.int ↑G, V.int ↑n, V.int ↑o, R]).get 0).toI = G := rfl
  have e3 : ((V.list [V.int ↑G, V.int ↑n, V.int ↑o, R]).get 1).toI = n := rfl
  have e4 : ((V.list [V.int ↑G, V.int ↑n, V.int ↑o, R]).get 2).toI = o := rfl
  simp only [e1, e2, e3, e4, hR, l0', true_and]
  omega
theorem count_spec {R : V} {G n o k : Nat} {rows : List (List Nat)} (M : LMod R G n o k rows) {z e : Nat} {c : Int} (h1 : z + e ≤ n) (h2 : -1 ≤ c) (h3 : c < k) : Fn prog lift_count.f [lv G n o R, .int z, .int e, .int c] (.list [cv (lv G n o R) z e c, .int 0]) := by
  have hv := valid_spec M
  obtain ⟨g1, g2, n1, n2, o1, k1, k2, len, rlen, row⟩ := M
  have hR : R.len = (n + 1 : Int) := by simp [V.len, rlen]
  obtain ⟨r0, hr0⟩ : ∃ r, rows[0]? = some r := ⟨_, List.getElem?_eq_getElem (by omega)⟩
  have row0 := row 0 r0 hr0
  have l0 := row0.1.len
  have l0' : (R.get 0).len = k := by rw [row0.2.1] at l0; exact l0
  refine Fn.of (C := lift_count.K) lift_count.b (Comes.last progOk lift_count.p7 [.bool true] ?_ ?_)
  · have e1 : (V.list [V.int ↑G, V.int ↑n, V.int ↑o, R]).get 3 = R := rfl
    have e2 : ((V.list [V.int ↑G, V.int ↑n, V.int ↑o, R]).get 0).toI = G := rfl
    have e3 : ((V.list [V.int ↑G, V.int ↑n, V.int ↑o, R]).get 1).toI = n := rfl
    have e4 : ((V.list [V.int ↑G, V.int ↑n, V.int ↑o, R]).get 2).toI = o := rfl
    simp only [EvOk, E.b, E.i, E.v, Env.ext, List.map_cons, List.map_nil, List.cons_append, List.nil_append, List.append_nil, List.getD_cons_zero, List.getD_cons_succ, lv, toI_int, toB_bool, ltB_iff, leB_iff, eqB_iff, ltB_not, leB_not, Bool.not_eq_true', Bool.not_eq_false', Bool.not_not, Bool.and_eq_true, and_true, true_and, e1, e2, e3, e4, hR, l0']
    refine ⟨?_, by omega⟩
    exact hv
  · simp only [E.i, E.v, Env.ext, List.cons_append, List.nil_append, List.append_nil, List.getD_cons_zero, List.getD_cons_succ, lv, cv]
    rfl
end X
namespace X
open Go Go.Abs Go.Sym
set_option linter.unusedVariables false
set_option linter.unusedSimpArgs false

def bin : Nat → Nat → Nat
  | _, 0 => 1
  | 0, _ + 1 => 0
  | n + 1, k + 1 => bin n k + bin n (k + 1)
theorem bin_step : ∀ n, n ≤ 10 → ∀ k, k ≤ 10 → bin n (k + 1) = bin n k * (n - k) / (k + 1) := by decide
theorem bin_le : ∀ n, n ≤ 10 → ∀ k, k ≤ 11 → bin n k ≤ 252 := by decide
/-- What is known of the child. -/
def shw (G : Nat) (rows : List (List Nat)) (c : Int) (j : Nat) : Nat := if c < 0 then G else ((rows[j]?.getD [])[c.toNat]?.getD 0)
/-- The weight of j ones, with e ones and m unknown ones. -/
def wt (G n o : Nat) (rows : List (List Nat)) (c : Int) (e m j : Nat) : Nat := if e ≤ j ∧ j ≤ e + m then bin m (j - e) * o ^ j * (G - o) ^ (n - j) * shw G rows c j else 0
def wts (G n o : Nat) (rows : List (List Nat)) (c : Int) (e m : Nat) : List Nat := (List.range (n + 1)).map (wt G n o rows c e m)

theorem shw_le {R : V} {G n o k : Nat} {rows : List (List Nat)} (M : LMod R G n o k rows) (c : Int) (j : Nat) : shw G rows c j ≤ 20 := by
  unfold shw
  split
  · exact M.g2
  · cases hr : rows[j]? with
    | none => simp
    | some r =>
      simp only [Option.getD_some]
      cases hd : r[c.toNat]? with
      | none => simp
      | some d =>
        simp only [Option.getD_some]
        have := (M.row j r hr).2.2
        have := le_sum (List.mem_of_getElem? hd)
        have := M.g2
        omega
theorem shows_spec {R : V} {G n o k : Nat} {rows : List (List Nat)} (M : LMod R G n o k rows) {z e : Nat} {c : Int} (h3 : c < k) {j : Nat} (hj : j ≤ n) : Fn prog lift_shows.f [cv (lv G n o R) z e c, .int j] (.int (shw G rows c j)) := by
  obtain ⟨r, hr⟩ : ∃ r, rows[j]? = some r := ⟨_, List.getElem?_eq_getElem (by have := M.len; omega)⟩
  obtain ⟨i1, i2, i3⟩ := M.row j r hr
  have hR : R.len = (n + 1 : Int) := by simp [V.len, M.rlen]
  have hl := i1.len
  have e0 : (cv (lv G n o R) z e c).get 0 = lv G n o R := rfl
  have e3 : ((cv (lv G n o R) z e c).get 3).toI = c := rfl
  have e1 : (lv G n o R).get 3 = R := rfl
  have e2 : ((lv G n o R).get 0).toI = G := rfl
  by_cases hc : c < 0
  · refine Fn.of (C := lift_shows.K) lift_shows.b (Comes.last progOk lift_shows.p0 [] ?_ ?_)
    · simp only [EvOk, E.b, E.i, E.v, Env.ext, List.append_nil, List.getD_cons_zero, List.getD_cons_succ, ltB_iff, e3, and_true]; exact hc
    · simp only [E.i, E.v, Env.ext, List.append_nil, List.getD_cons_zero, List.getD_cons_succ, e0, e2, shw, if_pos hc]
  · refine Fn.of (C := lift_shows.K) lift_shows.b (Comes.last progOk lift_shows.p1 [] ?_ ?_)
    · simp only [EvOk, E.b, E.i, E.v, Env.ext, List.append_nil, List.getD_cons_zero, List.getD_cons_succ, ltB_iff, leB_iff, ltB_not, Bool.not_eq_true', Bool.and_eq_true, toI_int, e0, e1, e2, e3, and_true, hR, hl, i2]
      omega
    · obtain ⟨d, hd⟩ : ∃ d, r[c.toNat]? = some d := ⟨_, List.getElem?_eq_getElem (by omega)⟩
      have gd := i1.get hd
      rw [show ((c.toNat : Nat) : Int) = c from by omega] at gd
      simp only [E.i, E.v, Env.ext, List.append_nil, List.getD_cons_zero, List.getD_cons_succ, toI_int, e0, e1, e3, gd, shw, if_neg hc, hr, hd, Option.getD_some]
theorem map_set (n i d : Nat) (f g : Nat → Nat) (h : ∀ j, g j = if j = i then d else f j) : ((List.range n).map f).set i d = (List.range n).map g := by
  apply List.ext_getElem?
  intro j
  rw [List.getElem?_set]
  by_cases hj : j < n
  · simp [hj, h]
    by_cases q : i = j
    · subst q; simp [hj]
    · simp [q, Ne.symm q]
  · simp [hj]
    intro q; omega
theorem weights_spec {R : V} {G n o k : Nat} {rows : List (List Nat)} (M : LMod R G n o k rows) {z e m : Nat} {c : Int} (h1 : z + e + m = n) (h3 : c < k) : ∃ r, Ints r (wts G n o rows c e m) ∧ Fn prog lift_weights.f [cv (lv G n o R) z e c] r := by
  have e0 : (cv (lv G n o R) z e c).get 0 = lv G n o R := rfl
  have e3 : ((cv (lv G n o R) z e c).get 3).toI = c := rfl
  have ez : ((cv (lv G n o R) z e c).get 1).toI = z := rfl
  have ee : ((cv (lv G n o R) z e c).get 2).toI = e := rfl
  have l0 : ((lv G n o R).get 0).toI = G := rfl
  have l1 : ((lv G n o R).get 1).toI = n := rfl
  have l2 : ((lv G n o R).get 2).toI = o := rfl
  have l3 : (lv G n o R).get 3 = R := rfl
  have hG := M.g2
  have hn := M.n2
  have ho := M.o1
  let part := fun (i j : Nat) => if j < e + i then wt G n o rows c e m j else 0
  have loop : ∀ (t i : Nat) (i' b : Int) (out : V), t + i = m + 1 → i' = i → b = (bin m i : Nat) → Ints out ((List.range (n + 1)).map (part i)) → ∃ r, Ints r (wts G n o rows c e m) ∧ Comes lift_weights.K lift_weights.f lift_weights.s1 ⟨[b, i'], [], [cv (lv G n o R) z e c, out]⟩ r := by
    intro t
    induction t with
    | zero =>
      intro i i' b out ht hi hb hout
      have : i = m + 1 := by omega
      subst this hi hb
      have heq : (List.range (n + 1)).map (part (m + 1)) = wts G n o rows c e m := by
        unfold wts
        apply List.map_congr_left
        intro j hj
        simp only [part]
        split
        · rfl
        · unfold wt; rw [if_neg (by omega)]
      rw [heq] at hout
      refine ⟨out, hout, Comes.last progOk lift_weights.p2 [] ?_ ?_⟩
      · simp only [EvOk, E.b, E.i, E.v, Env.ext, List.append_nil, List.getD_cons_zero, List.getD_cons_succ, leB_not, Bool.not_eq_true', e0, ez, ee, l1, and_true]
        omega
      · simp [EvOk, E.b, E.i, E.v, Env.ext, Sub.ev, ltB_iff, leB_iff, eqB_iff, eqB_not, ltB_not, leB_not]
    | succ t ih =>
      intro i i' b out ht hi hb hout
      subst hi hb
      have lo := hout.len
      simp only [List.length_map, List.length_range] at lo
      have p1 := power_spec o (e + i) (by omega) (by omega)
      have p2 := power_spec (G - o) (n - (e + i)) (by omega) (by omega)
      have p3 := shows_spec M (z := z) (e := e) h3 (j := e + i) (by omega)
      have s1 := shw_le M c (e + i)
      have b1 := bin_le m (by omega) i (by omega)
      have x1 : o ^ (e + i) ≤ 20 ^ (e + i) := Nat.pow_le_pow_left (by omega) _
      have x2 : (G - o) ^ (n - (e + i)) ≤ 20 ^ (n - (e + i)) := Nat.pow_le_pow_left (by omega) _
      have x3 : o ^ (e + i) * (G - o) ^ (n - (e + i)) ≤ 20 ^ 10 := by
        refine Nat.le_trans (Nat.mul_le_mul x1 x2) ?_
        rw [← Nat.pow_add]
        exact Nat.pow_le_pow_right (by omega) (by omega)
      have x0 : o ^ (e + i) ≤ 20 ^ 10 := Nat.le_trans x1 (Nat.pow_le_pow_right (by omega) (by omega))
      have m1 : bin m i * o ^ (e + i) ≤ 252 * 20 ^ 10 := Nat.mul_le_mul b1 x0
      have m2 : bin m i * o ^ (e + i) * (G - o) ^ (n - (e + i)) ≤ 252 * 20 ^ 10 := by
        rw [Nat.mul_assoc]; exact Nat.mul_le_mul b1 x3
      have m3 : bin m i * o ^ (e + i) * (G - o) ^ (n - (e + i)) * shw G rows c (e + i) ≤ 252 * 20 ^ 10 * 20 := Nat.mul_le_mul m2 s1
      have hset : ((List.range (n + 1)).map (part i)).set (e + i) (bin m i * o ^ (e + i) * (G - o) ^ (n - (e + i)) * shw G rows c (e + i)) = (List.range (n + 1)).map (part (i + 1)) := by
        apply map_set
        intro j
        simp only [part]
        by_cases q : j = e + i
        · subst q
          rw [if_pos (by omega), if_pos rfl]
          unfold wt
          rw [if_pos (by omega), show e + i - e = i from by omega]
        · rw [if_neg q]
          by_cases q2 : j < e + i
          · rw [if_pos (by omega), if_pos q2]
          · rw [if_neg (by omega), if_neg q2]
      have c1 : ((bin m i : Nat) : Int) * ((o ^ (e + i) : Nat) : Int) = ((bin m i * o ^ (e + i) : Nat) : Int) := (Int.natCast_mul _ _).symm
      have c2 : ((bin m i * o ^ (e + i) : Nat) : Int) * (((G - o) ^ (n - (e + i)) : Nat) : Int) = ((bin m i * o ^ (e + i) * (G - o) ^ (n - (e + i)) : Nat) : Int) := (Int.natCast_mul _ _).symm
      have c3 : ((bin m i * o ^ (e + i) * (G - o) ^ (n - (e + i)) : Nat) : Int) * (shw G rows c (e + i) : Nat) = ((bin m i * o ^ (e + i) * (G - o) ^ (n - (e + i)) * shw G rows c (e + i) : Nat) : Int) := (Int.natCast_mul _ _).symm
      have hout2 := hout.set (e + i) (bin m i * o ^ (e + i) * (G - o) ^ (n - (e + i)) * shw G rows c (e + i))
      rw [hset] at hout2
      have hst := bin_step m (by omega) i (by omega)
      have hmi : i ≤ m := by omega
      have c4 : ((bin m i : Nat) : Int) * ((n : Int) - z - e - i) = ((bin m i * (m - i) : Nat) : Int) := by
        rw [Int.natCast_mul]; congr 1; omega
      have c5 : (((bin m i * (m - i) : Nat) : Int)).tdiv ((i : Int) + 1) = ((bin m (i + 1) : Nat) : Int) := by
        rw [hst, Int.tdiv_eq_ediv_of_nonneg (by omega)]; rfl
      have b2 : bin m i * (m - i) ≤ 252 * 10 := Nat.mul_le_mul b1 (by omega)
      have b3 := bin_le m (by omega) (i + 1) (by omega)
      have a1 : (G : Int) - o = ((G - o : Nat) : Int) := by omega
      have a2 : (n : Int) - ((e : Int) + i) = ((n - (e + i) : Nat) : Int) := by omega
      have a3 : (e : Int) + i = ((e + i : Nat) : Int) := by omega
      obtain ⟨r, r1, r2⟩ := ih (i + 1) ((i : Int) + 1) ((((bin m i : Nat) : Int) * ((n : Int) - z - e - i)).tdiv ((i : Int) + 1)) (out.set ((e : Int) + i) (.int ((((bin m i : Nat) : Int) * ((o ^ (e + i) : Nat) : Int)) * (((G - o) ^ (n - (e + i)) : Nat) : Int) * (shw G rows c (e + i) : Nat)))) (by omega) (by omega) (by rw [c4, c5]) (by rw [c1, c2, c3, a3]; exact hout2)
      refine ⟨r, r1, Comes.step progOk lift_weights.p1 [.int (o ^ (e + i) : Nat), .int ((G - o) ^ (n - (e + i)) : Nat), .int (shw G rows c (e + i))] ?_ r2⟩
      simp only [EvOk, E.b, E.i, E.v, Env.ext, List.map_cons, List.map_nil, List.cons_append, List.nil_append, List.append_nil, List.getD_cons_zero, List.getD_cons_succ, toI_int, leB_iff, ltB_iff, eqB_not, Bool.not_eq_true', Bool.and_eq_true, e0, e3, ez, ee, l0, l1, l2, l3, and_true, a1, a2, c4, c5, c1, c2, c3, lo]
      refine ⟨by omega, by omega, by omega, by omega, by rw [a3]; exact p1, ?_, p2, ?_, by rw [a3]; exact p3, ?_, by omega, by omega, by omega, ?_, by omega, by omega, ?_, by omega⟩
      · generalize bin m i * o ^ (e + i) = Y at *; omega
      · generalize bin m i * o ^ (e + i) * (G - o) ^ (n - (e + i)) = Y at *; omega
      · generalize bin m i * o ^ (e + i) * (G - o) ^ (n - (e + i)) * shw G rows c (e + i) = Y at *; omega
      · generalize bin m i * (m - i) = Y at *; omega
      · omega
  obtain ⟨r, r1, r2⟩ := loop (m + 1) 0 0 1 (V.rep ((n : Int) + 1) (.int 0)) (by omega) rfl (by simp [bin]) (by
    have := Ints.rep (n + 1) 0
    rw [show List.replicate (n + 1) 0 = (List.range (n + 1)).map (part 0) from ?_] at this
    · exact this
    · apply List.ext_getElem?
      intro j
      by_cases hj : j < n + 1
      · simp [hj, part]
        intro h; unfold wt; rw [if_neg (by omega)]
      · simp [hj])
  refine ⟨r, r1, Fn.of (C := lift_weights.K) lift_weights.b (Comes.step progOk lift_weights.p0 [] ?_ r2)⟩
  simp only [EvOk, E.b, E.i, E.v, Env.ext, List.append_nil, List.getD_cons_zero, List.getD_cons_succ, leB_iff, Bool.and_eq_true, e0, ez, ee, l1, and_true]
  omega
end X
namespace X
open Go Go.Abs Go.Sym
set_option linter.unusedVariables false
set_option linter.unusedSimpArgs false

theorem toI_int' (z : Int) : (V.int z).toI = z := rfl
theorem toB_bool' (b : Bool) : (V.bool b).toB = b := rfl
/-- conditions, worked out -/

def qn (n d : Nat) : V := .list [.int n, .int d]
theorem qn0 (n d : Nat) : (qn n d).get 0 = .int n := rfl
theorem qn1 (n d : Nat) : (qn n d).get 1 = .int d := rfl
def can (a b : Nat) : V := qn (a / a.gcd b) (b / a.gcd b)
theorem qV_false (n d : Nat) : qV false n d = qn n d := rfl

theorem dg_small {n : Nat} (h : n ≤ big) : (dg n).length ≤ 5 := dg_len (by unfold pw; unfold big at h; omega)
theorem times_dg {a b : V} {m n : Nat} (ha : Ints a (dg m)) (hb : Ints b (dg n)) (h : (dg m).length + (dg n).length ≤ 1000000000) : ∃ r, Ints r (dg (m * n)) ∧ Fn prog ref01_times.f [a, b] r := by
  have := times_spec ha hb (ok_dg m) (fun x hx => Nat.le_of_lt (ok_dg n x hx)) (Nat.le_of_lt (val_lt (ok_dg n))) h
  rwa [val_dg, val_dg] at this
theorem dg_len_mul {m n : Nat} : (dg (m * n)).length ≤ (dg m).length + (dg n).length := by
  apply dg_len
  rw [pw_add]
  have h1 := val_lt (ok_dg m)
  have h2 := val_lt (ok_dg n)
  rw [val_dg] at h1 h2
  exact Nat.mul_lt_mul_of_lt_of_lt h1 h2
theorem dg_len_add {m n k : Nat} (h1 : (dg m).length ≤ k) (h2 : (dg n).length ≤ k) : (dg (m + n)).length ≤ k + 1 := by
  apply dg_len
  have a1 := val_lt (ok_dg m)
  have a2 := val_lt (ok_dg n)
  rw [val_dg] at a1 a2
  have b1 : pw (dg m).length ≤ pw k := Nat.pow_le_pow_right (by omega) h1
  have b2 : pw (dg n).length ≤ pw k := Nat.pow_le_pow_right (by omega) h2
  rw [pw_succ]; omega

theorem plus_loop {a b : V} {m n : Nat} (ha : Ints a (dg m)) (hb : Ints b (dg n)) (lm : (dg m).length ≤ 1000000000) (ln : (dg n).length ≤ 1000000000) : ∀ (t i c : Nat) (i' c' : Int) (out : V) (l : List Nat), m / pw i + n / pw i + c ≤ t → i' = i → c' = c → c ≤ 1 → Ints out l → l.length = i → i ≤ 1000000001 → (c = 0 ∨ i ≤ (dg m).length ∨ i ≤ (dg n).length) → ∃ r, Ints r (l ++ dg (m / pw i + n / pw i + c)) ∧ Comes ref01_plus.K ref01_plus.f ref01_plus.s1 ⟨[c', i'], [], [a, b, out]⟩ r := by
  have la := ha.len
  have lb := hb.len
  intro t
  induction t with
  | zero =>
    intro i c i' c' out l ht hi hc hc1 hout hli hib _
    subst hi hc
    obtain ⟨z0, z3⟩ := Nat.add_eq_zero_iff.1 (Nat.le_zero.1 ht)
    obtain ⟨z1, z2⟩ := Nat.add_eq_zero_iff.1 z0
    subst z3
    have q1 : ¬ i < (dg m).length := fun q => (dg_lt m i).1 q z1
    have q2 : ¬ i < (dg n).length := fun q => (dg_lt n i).1 q z2
    refine ⟨out, by rw [z1, z2]; simpa [dg_zero] using hout, Comes.last progOk ref01_plus.p13 [] ?_ ?_⟩
    · simp only [EvOk, E.b, E.i, E.v, Env.ext, List.map_cons, List.map_nil, List.cons_append, List.nil_append, List.append_nil, List.getD_cons_zero, List.getD_cons_succ, toI_int', toB_bool', ltB_iff, leB_iff, eqB_iff, eqB_not, ltB_not, leB_not, Bool.not_eq_true', Bool.not_eq_false', Bool.not_not, Bool.and_eq_true, and_true, true_and]; omega
    · simp only [EvOk, E.b, E.i, E.v, Env.ext, List.map_cons, List.map_nil, List.cons_append, List.nil_append, List.append_nil, List.getD_cons_zero, List.getD_cons_succ, toI_int', toB_bool', ltB_iff, leB_iff, eqB_iff, eqB_not, ltB_not, leB_not, Bool.not_eq_true', Bool.not_eq_false', Bool.not_not, Bool.and_eq_true, and_true, true_and]
  | succ t ih =>
    intro i c i' c' out l ht hi hc hc1 hout hli hib hcl
    subst hi hc
    have lo := hout.len
    have dm := div_pw m i
    have dn := div_pw n i
    have am := Nat.div_add_mod (m / pw i) 10000
    have an := Nat.div_add_mod (n / pw i) 10000
    rw [← dm] at am
    rw [← dn] at an
    by_cases h0 : m / pw i + n / pw i + c = 0
    · obtain ⟨z0, z3⟩ := Nat.add_eq_zero_iff.1 h0
      obtain ⟨z1, z2⟩ := Nat.add_eq_zero_iff.1 z0
      subst z3
      have q1 : ¬ i < (dg m).length := fun q => (dg_lt m i).1 q z1
      have q2 : ¬ i < (dg n).length := fun q => (dg_lt n i).1 q z2
      refine ⟨out, by rw [z1, z2]; simpa [dg_zero] using hout, Comes.last progOk ref01_plus.p13 [] ?_ ?_⟩
      · simp only [EvOk, E.b, E.i, E.v, Env.ext, List.map_cons, List.map_nil, List.cons_append, List.nil_append, List.append_nil, List.getD_cons_zero, List.getD_cons_succ, toI_int', toB_bool', ltB_iff, leB_iff, eqB_iff, eqB_not, ltB_not, leB_not, Bool.not_eq_true', Bool.not_eq_false', Bool.not_not, Bool.and_eq_true, and_true, true_and]; omega
      · simp only [EvOk, E.b, E.i, E.v, Env.ext, List.map_cons, List.map_nil, List.cons_append, List.nil_append, List.append_nil, List.getD_cons_zero, List.getD_cons_succ, toI_int', toB_bool', ltB_iff, leB_iff, eqB_iff, eqB_not, ltB_not, leB_not, Bool.not_eq_true', Bool.not_eq_false', Bool.not_not, Bool.and_eq_true, and_true, true_and]
    · have hp1 : m / pw i % 10000 < 10000 := Nat.mod_lt _ (by omega)
      have hq1 : n / pw i % 10000 < 10000 := Nat.mod_lt _ (by omega)
      have eqd : dg (m / pw i + n / pw i + c) = (m / pw i % 10000 + n / pw i % 10000 + c) % 10000 :: dg (m / pw (i + 1) + n / pw (i + 1) + (m / pw i % 10000 + n / pw i % 10000 + c) / 10000) := by
        rw [dg_pos h0]
        congr 1
        · omega
        · congr 1; omega
      rw [eqd]
      have q1 : i < (dg m).length ↔ m / pw i ≠ 0 := dg_lt m i
      have q2 : i < (dg n).length ↔ n / pw i ≠ 0 := dg_lt n i
      have next : ∀ (s z w : Int), s = ((m / pw i % 10000 + n / pw i % 10000 + c : Nat) : Int) → z = s.tdiv 10000 → w = s.tmod 10000 → (i < (dg m).length ∨ i < (dg n).length ∨ (m / pw i % 10000 + n / pw i % 10000 + c) / 10000 = 0) → i ≤ 1000000000 → ∃ r, Ints r (l ++ ((m / pw i % 10000 + n / pw i % 10000 + c) % 10000 :: dg (m / pw (i + 1) + n / pw (i + 1) + (m / pw i % 10000 + n / pw i % 10000 + c) / 10000))) ∧ Comes ref01_plus.K ref01_plus.f ref01_plus.s1 ⟨[z, (i : Int) + 1], [], [a, b, out.snoc (.int w)]⟩ r := by
        intro s z w hs hz hw hcc hi9
        subst hz hw
        rw [tdivN _ _ hs, tmodN _ _ hs]
        obtain ⟨r, r1, r2⟩ := ih (i + 1) ((m / pw i % 10000 + n / pw i % 10000 + c) / 10000) ((i : Int) + 1) _ _ (l ++ [(m / pw i % 10000 + n / pw i % 10000 + c) % 10000]) (by omega) (by omega) rfl (by omega) (hout.snoc _) (by simp [hli]) (by omega) (by omega)
        exact ⟨r, by simpa using r1, r2⟩
      by_cases ham : i < (dg m).length
      · have g1 := dg_get m i
        rw [if_neg (q1.1 ham)] at g1
        have ga := ha.get g1
        by_cases hbn : i < (dg n).length
        · have g2 := dg_get n i
          rw [if_neg (q2.1 hbn)] at g2
          have gb := hb.get g2
          obtain ⟨r, r1, r2⟩ := next ((c : Int) + (a.get (i : Int)).toI + (b.get (i : Int)).toI) _ _ (by rw [ga, gb]; omega) rfl rfl (.inl ham) (by omega)
          refine ⟨r, r1, Comes.step progOk ref01_plus.p1 [] ?_ r2⟩
          have t := tdivN (m / pw i % 10000 + n / pw i % 10000 + c) ((c : Int) + (m / pw i % 10000 : Nat) + (n / pw i % 10000 : Nat)) (by omega)
          simp only [EvOk, E.b, E.i, E.v, Env.ext, List.map_cons, List.map_nil, List.cons_append, List.nil_append, List.append_nil, List.getD_cons_zero, List.getD_cons_succ, toI_int', toB_bool', ltB_iff, leB_iff, eqB_iff, eqB_not, ltB_not, leB_not, Bool.not_eq_true', Bool.not_eq_false', Bool.not_not, Bool.and_eq_true, and_true, true_and]
          rw [ga, gb, t]
          omega
        · have hz : n / pw i = 0 := Decidable.byContradiction fun q => hbn (q2.2 q)
          rw [hz] at next
          obtain ⟨r, r1, r2⟩ := next ((c : Int) + (a.get (i : Int)).toI) _ _ (by rw [ga]; omega) rfl rfl (.inl ham) (by omega)
          rw [hz]
          refine ⟨r, r1, Comes.step progOk ref01_plus.p2 [] ?_ r2⟩
          have t := tdivN (m / pw i % 10000 + c) ((c : Int) + (m / pw i % 10000 : Nat)) (by omega)
          simp only [EvOk, E.b, E.i, E.v, Env.ext, List.map_cons, List.map_nil, List.cons_append, List.nil_append, List.append_nil, List.getD_cons_zero, List.getD_cons_succ, toI_int', toB_bool', ltB_iff, leB_iff, eqB_iff, eqB_not, ltB_not, leB_not, Bool.not_eq_true', Bool.not_eq_false', Bool.not_not, Bool.and_eq_true, and_true, true_and]
          rw [ga, t]
          omega
      · have hz : m / pw i = 0 := Decidable.byContradiction fun q => ham (q1.2 q)
        by_cases hbn : i < (dg n).length
        · have g2 := dg_get n i
          rw [if_neg (q2.1 hbn)] at g2
          have gb := hb.get g2
          rw [hz] at next
          obtain ⟨r, r1, r2⟩ := next ((c : Int) + (b.get (i : Int)).toI) _ _ (by rw [gb]; omega) rfl rfl (.inr (.inl hbn)) (by omega)
          rw [hz]
          refine ⟨r, r1, Comes.step progOk ref01_plus.p7 [] ?_ r2⟩
          have t := tdivN (n / pw i % 10000 + c) ((c : Int) + (n / pw i % 10000 : Nat)) (by omega)
          simp only [EvOk, E.b, E.i, E.v, Env.ext, List.map_cons, List.map_nil, List.cons_append, List.nil_append, List.append_nil, List.getD_cons_zero, List.getD_cons_succ, toI_int', toB_bool', ltB_iff, leB_iff, eqB_iff, eqB_not, ltB_not, leB_not, Bool.not_eq_true', Bool.not_eq_false', Bool.not_not, Bool.and_eq_true, and_true, true_and]
          rw [gb, t]
          omega
        · have hz2 : n / pw i = 0 := Decidable.byContradiction fun q => hbn (q2.2 q)
          rw [hz, hz2] at next
          obtain ⟨r, r1, r2⟩ := next (c : Int) _ _ (by omega) rfl rfl (.inr (.inr (by omega))) (by omega)
          rw [hz, hz2]
          refine ⟨r, r1, Comes.step progOk ref01_plus.p12 [] ?_ r2⟩
          have t := tdivN c (c : Int) rfl
          simp only [EvOk, E.b, E.i, E.v, Env.ext, List.map_cons, List.map_nil, List.cons_append, List.nil_append, List.append_nil, List.getD_cons_zero, List.getD_cons_succ, toI_int', toB_bool', ltB_iff, leB_iff, eqB_iff, eqB_not, ltB_not, leB_not, Bool.not_eq_true', Bool.not_eq_false', Bool.not_not, Bool.and_eq_true, and_true, true_and]
          rw [t]
          omega
theorem plus_spec {a b : V} {m n : Nat} (ha : Ints a (dg m)) (hb : Ints b (dg n)) (lm : (dg m).length ≤ 1000000000) (ln : (dg n).length ≤ 1000000000) : ∃ r, Ints r (dg (m + n)) ∧ Fn prog ref01_plus.f [a, b] r := by
  obtain ⟨r, r1, r2⟩ := plus_loop ha hb lm ln (m + n) 0 0 0 0 .nil [] (by rw [pw_zero]; omega) rfl rfl (by omega) ints_nil rfl (by omega) (.inl rfl)
  rw [pw_zero, Nat.div_one, Nat.div_one] at r1
  exact ⟨r, by simpa using r1, Fn.of (C := ref01_plus.K) ref01_plus.b (Comes.step progOk ref01_plus.p0 [] trivial r2)⟩
end X
namespace X
open Go Go.Abs Go.Sym
set_option linter.unusedVariables false
set_option linter.unusedSimpArgs false

theorem can_eq {a b c d : Nat} (hb : 0 < b) (hd : 0 < d) (h : a * d = c * b) : can a b = can c d := by
  have hg : 0 < a.gcd b := Nat.gcd_pos_of_pos_right _ hb
  have hh : 0 < c.gcd d := Nat.gcd_pos_of_pos_right _ hd
  obtain ⟨a', ha⟩ := Nat.gcd_dvd_left a b
  obtain ⟨b', hb'⟩ := Nat.gcd_dvd_right a b
  obtain ⟨c', hc⟩ := Nat.gcd_dvd_left c d
  obtain ⟨d', hd'⟩ := Nat.gcd_dvd_right c d
  have q1 : a / a.gcd b = a' := Nat.div_eq_of_eq_mul_right hg ha
  have q2 : b / a.gcd b = b' := Nat.div_eq_of_eq_mul_right hg hb'
  have q3 : c / c.gcd d = c' := Nat.div_eq_of_eq_mul_right hh hc
  have q4 : d / c.gcd d = d' := Nat.div_eq_of_eq_mul_right hh hd'
  have cop1 : Nat.Coprime a' b' := by
    have := Nat.coprime_div_gcd_div_gcd (m := a) (n := b) hg
    rwa [q1, q2] at this
  have cop2 : Nat.Coprime c' d' := by
    have := Nat.coprime_div_gcd_div_gcd (m := c) (n := d) hh
    rwa [q3, q4] at this
  have hcross : a' * d' = c' * b' := by
    have h1 : a.gcd b * a' * (c.gcd d * d') = c.gcd d * c' * (a.gcd b * b') := by rw [← ha, ← hb', ← hc, ← hd']; exact h
    have h2 : (a.gcd b * c.gcd d) * (a' * d') = (a.gcd b * c.gcd d) * (c' * b') := by
      calc (a.gcd b * c.gcd d) * (a' * d') = a.gcd b * a' * (c.gcd d * d') := by ac_rfl
        _ = c.gcd d * c' * (a.gcd b * b') := h1
        _ = (a.gcd b * c.gcd d) * (c' * b') := by ac_rfl
    exact Nat.eq_of_mul_eq_mul_left (Nat.mul_pos hg hh) h2
  have hb0 : 0 < b' := Nat.pos_of_ne_zero fun q => by subst q; omega
  have hd0 : 0 < d' := Nat.pos_of_ne_zero fun q => by subst q; omega
  have x1 : b' ∣ d' := cop1.symm.dvd_of_dvd_mul_left (hcross ▸ Nat.dvd_mul_left b' c')
  have x2 : d' ∣ b' := cop2.symm.dvd_of_dvd_mul_left (hcross ▸ Nat.dvd_mul_left d' a')
  have hbd : b' = d' := Nat.dvd_antisymm x1 x2
  have hac : a' = c' := by
    rw [hbd] at hcross
    exact Nat.eq_of_mul_eq_mul_right hd0 hcross
  unfold can
  rw [q1, q2, q3, q4, hbd, hac]
theorem can_parts {a b : Nat} (hb : 0 < b) : ∃ n d, can a b = qn n d ∧ 0 < d ∧ n ≤ a ∧ d ≤ b ∧ n * b = a * d ∧ Nat.gcd n d = 1 := by
  have hg : 0 < a.gcd b := Nat.gcd_pos_of_pos_right _ hb
  refine ⟨_, _, rfl, Nat.div_pos (Nat.gcd_le_right _ hb) hg, Nat.div_le_self _ _, Nat.div_le_self _ _, ?_, Nat.coprime_div_gcd_div_gcd hg⟩
  obtain ⟨a', ha⟩ := Nat.gcd_dvd_left a b
  obtain ⟨b', hb'⟩ := Nat.gcd_dvd_right a b
  have q1 : a / a.gcd b = a' := Nat.div_eq_of_eq_mul_right hg ha
  have q2 : b / a.gcd b = b' := Nat.div_eq_of_eq_mul_right hg hb'
  rw [q1, q2]
  calc a' * b = a' * (a.gcd b * b') := by rw [← hb']
    _ = a.gcd b * a' * b' := by ac_rfl
    _ = a * b' := by rw [← ha]
theorem madeV_can {x y : Nat} (h1 : x / x.gcd y ≤ big) (h2 : y / x.gcd y ≤ big) : madeV false x y = .list [can x y, .bool true] := by
  unfold madeV
  rw [if_pos ⟨h1, h2⟩]; rfl

theorem right_spec {n d : Nat} (h1 : n ≤ big) (h2 : d ≤ big) (h3 : 0 < d) (h4 : Nat.gcd n d = 1) : Fn prog ref01_Right.f [qn n d] (.bool true) := by
  have l1 := dg_small h1
  have l2 := dg_small h2
  unfold big at h1 h2
  obtain ⟨r1, a1, b1⟩ := digits_spec n (by omega) (by omega)
  obtain ⟨r2, a2, b2⟩ := digits_spec d (by omega) (by omega)
  simp only [Int.natAbs_natCast] at a1 a2
  obtain ⟨r3, a3, b3⟩ := gcd10_spec a1 a2 (by omega) (by omega)
  rw [h4] at a3
  have r4 := compare_spec (m := 1) (n := 1) (a := r3) (b := (V.list []).snoc (.int 1)) a3 (ints_emp.snoc 1) (by rw [dg_pos (by omega)]; simp [dg_zero])
  refine Fn.of (C := ref01_Right.K) ref01_Right.b (Comes.last progOk ref01_Right.p4 [r1, r2, r3, .int (cmpN 1 1)] ?_ ?_)
  · simp only [EvOk, E.b, E.i, E.v, Env.ext, List.map_cons, List.map_nil, List.cons_append, List.nil_append, List.append_nil, List.getD_cons_zero, List.getD_cons_succ, toI_int', toB_bool', ltB_iff, leB_iff, eqB_iff, eqB_not, ltB_not, leB_not, Bool.not_eq_true', Bool.not_eq_false', Bool.not_not, Bool.and_eq_true, and_true, true_and]
    simp only [qn0, qn1, toI_int']
    exact ⟨by omega, by omega, by omega, by omega, b1, b2, b3, r4⟩
  · simp only [EvOk, E.b, E.i, E.v, Env.ext, List.map_cons, List.map_nil, List.cons_append, List.nil_append, List.append_nil, List.getD_cons_zero, List.getD_cons_succ, toI_int', toB_bool', ltB_iff, leB_iff, eqB_iff, eqB_not, ltB_not, leB_not, Bool.not_eq_true', Bool.not_eq_false', Bool.not_not, Bool.and_eq_true, and_true, true_and]; simp [eqB, cmpN]
theorem ltB_nat (n : Nat) : ltB (n : Int) 0 = false := by rw [ltB_not]; omega
theorem madeV_get (x y : Nat) : ∃ n d b, madeV false x y = .list [.list [.int n, .int d], .bool b] := by
  unfold madeV
  split
  · exact ⟨_, _, _, rfl⟩
  · exact ⟨_, _, _, rfl⟩
theorem mul_spec {a b c d : Nat} (ha : a ≤ big) (hb : b ≤ big) (hc : c ≤ big) (hd : d ≤ big) (b0 : 0 < b) (d0 : 0 < d) : Fn prog ref01_Mul.f [qn a b, qn c d] (madeV false (a * c) (b * d)) := by
  have la := dg_small ha
  have lb := dg_small hb
  have lc := dg_small hc
  have ld := dg_small hd
  unfold big at ha hb hc hd
  obtain ⟨r2, a2, b2⟩ := digits_spec a (by omega) (by omega)
  obtain ⟨r3, a3, b3⟩ := digits_spec c (by omega) (by omega)
  obtain ⟨r5, a5, b5⟩ := digits_spec b (by omega) (by omega)
  obtain ⟨r6, a6, b6⟩ := digits_spec d (by omega) (by omega)
  simp only [Int.natAbs_natCast] at a2 a3 a5 a6
  obtain ⟨r4, a4, b4⟩ := times_dg a2 a3 (by omega)
  obtain ⟨r7, a7, b7⟩ := times_dg a5 a6 (by omega)
  have l4 := dg_len_mul (m := a) (n := c)
  have l7 := dg_len_mul (m := b) (n := d)
  have m := made_spec (neg := false) a4 a7 (Nat.mul_pos b0 d0) (by omega) (by omega)
  obtain ⟨x, y, w, hm⟩ := madeV_get (a * c) (b * d)
  rw [hm] at m ⊢
  refine Fn.of (C := ref01_Mul.K) ref01_Mul.b (Comes.last progOk ref01_Mul.p0 [r2, r3, r4, r5, r6, r7, .list [.list [.int x, .int y], .bool w]] ?_ ?_)
  · simp only [EvOk, E.b, E.i, E.v, Env.ext, List.map_cons, List.map_nil, List.cons_append, List.nil_append, List.append_nil, List.getD_cons_zero, List.getD_cons_succ, toI_int', toB_bool', ltB_iff, leB_iff, eqB_iff, eqB_not, ltB_not, leB_not, Bool.not_eq_true', Bool.not_eq_false', Bool.not_not, Bool.and_eq_true, and_true, true_and]
    simp only [qn0, qn1, toI_int', ltB_nat]
    exact ⟨b2, b3, b4, b5, b6, b7, m⟩
  · simp only [EvOk, E.b, E.i, E.v, Env.ext, List.map_cons, List.map_nil, List.cons_append, List.nil_append, List.append_nil, List.getD_cons_zero, List.getD_cons_succ, toI_int', toB_bool', ltB_iff, leB_iff, eqB_iff, eqB_not, ltB_not, leB_not, Bool.not_eq_true', Bool.not_eq_false', Bool.not_not, Bool.and_eq_true, and_true, true_and]
    rfl
theorem add_spec {a b c d : Nat} (ha : a ≤ big) (hb : b ≤ big) (hc : c ≤ big) (hd : d ≤ big) (b0 : 0 < b) (d0 : 0 < d) : Fn prog ref01_Add.f [qn a b, qn c d] (madeV false (a * d + c * b) (b * d)) := by
  have la := dg_small ha
  have lb := dg_small hb
  have lc := dg_small hc
  have ld := dg_small hd
  unfold big at ha hb hc hd
  obtain ⟨ra, aa, ba⟩ := digits_spec a (by omega) (by omega)
  obtain ⟨rc, ac, bc⟩ := digits_spec c (by omega) (by omega)
  obtain ⟨rb, ab, bb⟩ := digits_spec b (by omega) (by omega)
  obtain ⟨rd, ad, bd⟩ := digits_spec d (by omega) (by omega)
  simp only [Int.natAbs_natCast] at aa ac ab ad
  obtain ⟨r4, a4, b4⟩ := times_dg aa ad (by omega)
  obtain ⟨r7, a7, b7⟩ := times_dg ac ab (by omega)
  obtain ⟨r10, a10, b10⟩ := times_dg ab ad (by omega)
  have l4 := dg_len_mul (m := a) (n := d)
  have l7 := dg_len_mul (m := c) (n := b)
  have l10 := dg_len_mul (m := b) (n := d)
  obtain ⟨r11, a11, b11⟩ := plus_spec a4 a7 (by omega) (by omega)
  have l11 := dg_len_add (m := a * d) (n := c * b) (k := 20) (by omega) (by omega)
  have m := made_spec (neg := false) a11 a10 (Nat.mul_pos b0 d0) (by omega) (by omega)
  obtain ⟨x, y, w, hm⟩ := madeV_get (a * d + c * b) (b * d)
  rw [hm] at m ⊢
  refine Fn.of (C := ref01_Add.K) ref01_Add.b (Comes.last progOk ref01_Add.p0 [ra, rd, r4, rc, rb, r7, rb, rd, r10, r11, .list [.list [.int x, .int y], .bool w]] ?_ ?_)
  · simp only [EvOk, E.b, E.i, E.v, Env.ext, List.map_cons, List.map_nil, List.cons_append, List.nil_append, List.append_nil, List.getD_cons_zero, List.getD_cons_succ, toI_int', toB_bool', ltB_iff, leB_iff, eqB_iff, eqB_not, ltB_not, leB_not, Bool.not_eq_true', Bool.not_eq_false', Bool.not_not, Bool.and_eq_true, and_true, true_and]
    simp only [qn0, qn1, toI_int', ltB_nat]
    exact ⟨ba, bd, b4, bc, bb, b7, bb, bd, b10, rfl, b11, m⟩
  · simp only [EvOk, E.b, E.i, E.v, Env.ext, List.map_cons, List.map_nil, List.cons_append, List.nil_append, List.append_nil, List.getD_cons_zero, List.getD_cons_succ, toI_int', toB_bool', ltB_iff, leB_iff, eqB_iff, eqB_not, ltB_not, leB_not, Bool.not_eq_true', Bool.not_eq_false', Bool.not_not, Bool.and_eq_true, and_true, true_and]
    rfl
/-- The sum of two numbers over the same denominator. -/
theorem add_can {a c W : Nat} (W0 : 0 < W) (hs : a + c ≤ big) (hW : W ≤ big) : Fn prog ref01_Add.f [can a W, can c W] (.list [can (a + c) W, .bool true]) := by
  obtain ⟨n1, d1, e1, p1, q1, s1, t1, u1⟩ := can_parts (a := a) W0
  obtain ⟨n2, d2, e2, p2, q2, s2, t2, u2⟩ := can_parts (a := c) W0
  rw [e1, e2]
  have h := add_spec (a := n1) (b := d1) (c := n2) (d := d2) (by omega) (by omega) (by omega) (by omega) p1 p2
  have hc : can (n1 * d2 + n2 * d1) (d1 * d2) = can (a + c) W := by
    apply can_eq (Nat.mul_pos p1 p2) W0
    rw [Nat.add_mul, Nat.add_mul]
    congr 1
    · calc n1 * d2 * W = (n1 * W) * d2 := by ac_rfl
        _ = a * (d1 * d2) := by rw [t1]; ac_rfl
    · calc n2 * d1 * W = (n2 * W) * d1 := by ac_rfl
        _ = c * (d1 * d2) := by rw [t2]; ac_rfl
  have hcc := hc
  unfold can at hcc
  have hq : ∀ x y z w : Nat, qn x y = qn z w → x = z ∧ y = w := by
    intro x y z w h
    unfold qn at h
    simp at h
    omega
  obtain ⟨k1, k2⟩ := hq _ _ _ _ hcc
  rw [madeV_can (by rw [k1]; exact Nat.le_trans (Nat.div_le_self _ _) hs) (by rw [k2]; exact Nat.le_trans (Nat.div_le_self _ _) hW), hc] at h
  exact h
/-- A whole number times a fraction. -/
theorem mul_can {a c W : Nat} (W0 : 0 < W) (hs : a * c ≤ big) (ha : a ≤ big) (hc9 : c ≤ big) (hW : W ≤ big) : Fn prog ref01_Mul.f [can a W, can c 1] (.list [can (a * c) W, .bool true]) := by
  obtain ⟨n1, d1, e1, p1, q1, s1, t1, u1⟩ := can_parts (a := a) W0
  have e2 : can c 1 = qn c 1 := by simp [can]
  rw [e1, e2]
  have h := mul_spec (a := n1) (b := d1) (c := c) (d := 1) (by omega) (by omega) (by omega) (by unfold big; omega) p1 (by omega)
  have hc : can (n1 * c) (d1 * 1) = can (a * c) W := by
    apply can_eq (by omega) W0
    calc n1 * c * W = (n1 * W) * c := by ac_rfl
      _ = a * c * (d1 * 1) := by rw [t1]; simp only [Nat.mul_one]; ac_rfl
  have hcc := hc
  unfold can at hcc
  have hq : ∀ x y z w : Nat, qn x y = qn z w → x = z ∧ y = w := by
    intro x y z w h
    unfold qn at h
    simp at h
    omega
  obtain ⟨k1, k2⟩ := hq _ _ _ _ hcc
  rw [madeV_can (by rw [k1]; exact Nat.le_trans (Nat.div_le_self _ _) hs) (by rw [k2]; exact Nat.le_trans (Nat.div_le_self _ _) hW), hc] at h
  exact h
theorem of_can {a b : Nat} (ha : a ≤ big) (hb : b ≤ big) (b0 : 0 < b) : Fn prog ref01_Of.f [.int a, .int b] (can a b) := by
  unfold big at ha hb
  have := Of_spec (n := a) (d := b) (by omega) (by omega) (by omega) (by omega) (by omega)
  unfold ofQ at this
  simp only [Int.natAbs_natCast] at this
  rw [if_pos ⟨by have := Nat.div_le_self a (a.gcd b); unfold big; omega, by have := Nat.div_le_self b (a.gcd b); unfold big; omega⟩] at this
  have hn : negQ a b = false := by
    have h1 : decide ((a : Int) < 0) = false := by simp
    have h2 : decide ((b : Int) < 0) = false := by simp
    unfold negQ; rw [h1, h2]; rfl
  rw [hn] at this
  exact this
end X
namespace X
open Go Go.Abs Go.Sym
set_option linter.unusedVariables false
set_option linter.unusedSimpArgs false

def Qs (r : V) (l : List V) : Prop := r.els = l
theorem shared_spec {a : V} {l : List Nat} (ha : Ints a l) (hl : l.length ≤ 1000000000) (hs : l.sum ≤ big) : ∃ r, Fn prog lift_shared.f [a] r ∧ (if l.sum = 0 then r = .nil else r.els = l.map (fun x => can x l.sum) ∧ (0 < l.length → ∃ k, r = .list k)) := by
  have la := ha.len
  have hbig : big = 4611686018427387903 := rfl
  -- the second loop
  have second : l.sum ≠ 0 → ∀ (t i : Nat) (i' w : Int) (out : V), t + i = l.length → i' = i → out.els = (l.take i).map (fun x => can x l.sum) → (0 < i → ∃ k, out = .list k) → ∃ r, (r.els = l.map (fun x => can x l.sum) ∧ (0 < l.length → ∃ k, r = .list k)) ∧ Comes lift_shared.K lift_shared.f lift_shared.s2 ⟨[((l.sum : Nat) : Int), w, i'], [], [a, out]⟩ r := by
    intro h0 t
    induction t with
    | zero =>
      intro i i' w out ht hi hout hk
      have : i = l.length := by omega
      subst this hi
      rw [List.take_length] at hout
      refine ⟨out, ⟨hout, hk⟩, Comes.last progOk lift_shared.p5 [] ?_ ?_⟩
      · simp only [EvOk, E.b, E.i, E.v, Env.ext, List.map_cons, List.map_nil, List.cons_append, List.nil_append, List.append_nil, List.getD_cons_zero, List.getD_cons_succ, toI_int', toB_bool', ltB_iff, leB_iff, eqB_iff, eqB_not, ltB_not, leB_not, Bool.not_eq_true', Bool.not_eq_false', Bool.not_not, Bool.and_eq_true, and_true, true_and]; omega
      · simp only [EvOk, E.b, E.i, E.v, Env.ext, List.map_cons, List.map_nil, List.cons_append, List.nil_append, List.append_nil, List.getD_cons_zero, List.getD_cons_succ, toI_int', toB_bool', ltB_iff, leB_iff, eqB_iff, eqB_not, ltB_not, leB_not, Bool.not_eq_true', Bool.not_eq_false', Bool.not_not, Bool.and_eq_true, and_true, true_and]
    | succ t ih =>
      intro i i' w out ht hi hout hk
      subst hi
      obtain ⟨d, hd⟩ : ∃ e, l[i]? = some e := ⟨_, List.getElem?_eq_getElem (by omega)⟩
      have gd := ha.get hd
      have dl : d ≤ l.sum := le_sum (List.mem_of_getElem? hd)
      have mk := Make_spec (n := d) (d := l.sum) (by omega) (by omega) hs
      have lo : out.len = i := by
        unfold V.len; rw [hout]; simp; omega
      obtain ⟨r, r1, r2⟩ := ih (i + 1) ((i : Int) + 1) w (out.snoc (can d l.sum)) (by omega) (by omega) (by
        rw [List.take_add_one, hd]
        simp [V.snoc, show ∀ l, (V.list l).els = l from fun _ => rfl, hout]) (fun _ => ⟨_, rfl⟩)
      refine ⟨r, r1, Comes.step progOk lift_shared.p4 [.list [can d l.sum, .int 0]] ?_ r2⟩
      simp only [EvOk, E.b, E.i, E.v, Env.ext, List.map_cons, List.map_nil, List.cons_append, List.nil_append, List.append_nil, List.getD_cons_zero, List.getD_cons_succ, toI_int', toB_bool', ltB_iff, leB_iff, eqB_iff, eqB_not, ltB_not, leB_not, Bool.not_eq_true', Bool.not_eq_false', Bool.not_not, Bool.and_eq_true, and_true, true_and]
      rw [gd, lo]
      refine ⟨by omega, by omega, mk, by omega, by omega⟩
  have first : ∀ (t i : Nat) (i' s : Int), t + i = l.length → i' = i → s = ((l.take i).sum : Nat) → ∃ r, (if l.sum = 0 then r = .nil else r.els = l.map (fun x => can x l.sum) ∧ (0 < l.length → ∃ k, r = .list k)) ∧ Comes lift_shared.K lift_shared.f lift_shared.s1 ⟨[s, i'], [], [a]⟩ r := by
    intro t
    induction t with
    | zero =>
      intro i i' s ht hi hss
      have : i = l.length := by omega
      subst this hi hss
      rw [List.take_length]
      by_cases h0 : l.sum = 0
      · refine ⟨.nil, by rw [if_pos h0], Comes.last progOk lift_shared.p2 [] ?_ ?_⟩
        · simp only [EvOk, E.b, E.i, E.v, Env.ext, List.map_cons, List.map_nil, List.cons_append, List.nil_append, List.append_nil, List.getD_cons_zero, List.getD_cons_succ, toI_int', toB_bool', ltB_iff, leB_iff, eqB_iff, eqB_not, ltB_not, leB_not, Bool.not_eq_true', Bool.not_eq_false', Bool.not_not, Bool.and_eq_true, and_true, true_and]; omega
        · simp only [EvOk, E.b, E.i, E.v, Env.ext, List.map_cons, List.map_nil, List.cons_append, List.nil_append, List.append_nil, List.getD_cons_zero, List.getD_cons_succ, toI_int', toB_bool', ltB_iff, leB_iff, eqB_iff, eqB_not, ltB_not, leB_not, Bool.not_eq_true', Bool.not_eq_false', Bool.not_not, Bool.and_eq_true, and_true, true_and]
      · obtain ⟨r, r1, r2⟩ := second h0 l.length 0 0 (l.length : Int) .nil (by omega) rfl (by simp [V.els]) (by omega)
        refine ⟨r, by rw [if_neg h0]; exact r1, Comes.step progOk lift_shared.p3 [] ?_ r2⟩
        simp only [EvOk, E.b, E.i, E.v, Env.ext, List.map_cons, List.map_nil, List.cons_append, List.nil_append, List.append_nil, List.getD_cons_zero, List.getD_cons_succ, toI_int', toB_bool', ltB_iff, leB_iff, eqB_iff, eqB_not, ltB_not, leB_not, Bool.not_eq_true', Bool.not_eq_false', Bool.not_not, Bool.and_eq_true, and_true, true_and]; omega
    | succ t ih =>
      intro i i' s ht hi hss
      subst hi hss
      obtain ⟨d, hd⟩ : ∃ e, l[i]? = some e := ⟨_, List.getElem?_eq_getElem (by omega)⟩
      have gd := ha.get hd
      have h1 := sum_take l i d hd
      have h2 := take_sum_le l (i + 1)
      obtain ⟨r, r1, r2⟩ := ih (i + 1) ((i : Int) + 1) (((l.take i).sum : Nat) + (a.get (i : Int)).toI) (by omega) (by omega) (by rw [gd]; omega)
      refine ⟨r, r1, Comes.step progOk lift_shared.p1 [] ?_ r2⟩
      simp only [EvOk, E.b, E.i, E.v, Env.ext, List.map_cons, List.map_nil, List.cons_append, List.nil_append, List.append_nil, List.getD_cons_zero, List.getD_cons_succ, toI_int', toB_bool', ltB_iff, leB_iff, eqB_iff, eqB_not, ltB_not, leB_not, Bool.not_eq_true', Bool.not_eq_false', Bool.not_not, Bool.and_eq_true, and_true, true_and]
      rw [gd]
      omega
  obtain ⟨r, r1, r2⟩ := first l.length 0 0 0 (by omega) rfl rfl
  exact ⟨r, Fn.of (C := lift_shared.K) lift_shared.b (Comes.step progOk lift_shared.p0 [] trivial r2), r1⟩

theorem wt_le {R : V} {G n o k : Nat} {rows : List (List Nat)} (M : LMod R G n o k rows) (c : Int) {e m : Nat} (h : e + m ≤ n) (j : Nat) : wt G n o rows c e m j ≤ 252 * 20 ^ 10 * 20 := by
  unfold wt
  split
  · rename_i hj
    have hG := M.g2
    have hn := M.n2
    have ho := M.o1
    have s1 := shw_le M c j
    have b1 := bin_le m (by omega) (j - e) (by omega)
    have x1 : o ^ j ≤ 20 ^ j := Nat.pow_le_pow_left (by omega) _
    have x2 : (G - o) ^ (n - j) ≤ 20 ^ (n - j) := Nat.pow_le_pow_left (by omega) _
    have x3 : o ^ j * (G - o) ^ (n - j) ≤ 20 ^ 10 := by
      refine Nat.le_trans (Nat.mul_le_mul x1 x2) ?_
      rw [← Nat.pow_add]
      exact Nat.pow_le_pow_right (by omega) (by omega)
    refine Nat.mul_le_mul ?_ s1
    rw [Nat.mul_assoc]; exact Nat.mul_le_mul b1 x3
  · omega
theorem sum_map_le (l : List Nat) (f : Nat → Nat) (b : Nat) (h : ∀ x, f x ≤ b) : (l.map f).sum ≤ l.length * b := by
  induction l with
  | nil => simp
  | cons a l ih =>
    have := h a
    simp only [List.map_cons, List.sum_cons, List.length_cons, Nat.add_mul, Nat.one_mul]
    omega
theorem wts_sum_le {R : V} {G n o k : Nat} {rows : List (List Nat)} (M : LMod R G n o k rows) (c : Int) {e m : Nat} (h : e + m ≤ n) : (wts G n o rows c e m).sum ≤ 11 * (252 * 20 ^ 10 * 20) := by
  have h1 := sum_map_le (List.range (n + 1)) (wt G n o rows c e m) (252 * 20 ^ 10 * 20) (wt_le M c h)
  have h2 : (List.range (n + 1)).length * (252 * 20 ^ 10 * 20) ≤ 11 * (252 * 20 ^ 10 * 20) := Nat.mul_le_mul_right _ (by have := M.n2; simp; omega)
  exact Nat.le_trans h1 h2
theorem wts_len (G n o : Nat) (rows : List (List Nat)) (c : Int) (e m : Nat) : (wts G n o rows c e m).length = n + 1 := by simp [wts]

theorem Ones_spec {R : V} {G n o k : Nat} {rows : List (List Nat)} (M : LMod R G n o k rows) {z e m : Nat} {c : Int} (h1 : z + e + m = n) (h2 : -1 ≤ c) (h3 : c < k) :
    ∃ r, Fn prog lift_Ones.f [lv G n o R, .int z, .int e, .int c] r ∧ (if (wts G n o rows c e m).sum = 0 then r = .list [.nil, .int 7] else ∃ q, r = .list [.list q, .int 0] ∧ q = (wts G n o rows c e m).map (fun x => can x (wts G n o rows c e m).sum)) := by
  have hc := count_spec M (z := z) (e := e) (c := c) (by omega) h2 h3
  obtain ⟨w, w1, w2⟩ := weights_spec M h1 h3
  have hsum := wts_sum_le M c (e := e) (m := m) (by omega)
  have hb : 11 * (252 * 20 ^ 10 * 20) ≤ big := by decide
  have hl := wts_len G n o rows c e m
  obtain ⟨r, r1, r2⟩ := shared_spec w1 (by have := M.n2; omega) (by omega)
  by_cases h0 : (wts G n o rows c e m).sum = 0
  · rw [if_pos h0] at r2
    subst r2
    refine ⟨_, Fn.of (C := lift_Ones.K) lift_Ones.b (Comes.last progOk lift_Ones.p1 [.list [cv (lv G n o R) z e c, .int 0], w, .nil] ?_ rfl), by rw [if_pos h0]; rfl⟩
    simp only [EvOk, E.b, E.i, E.v, Env.ext, List.map_cons, List.map_nil, List.cons_append, List.nil_append, List.append_nil, List.getD_cons_zero, List.getD_cons_succ, toI_int', toB_bool', ltB_iff, leB_iff, eqB_iff, eqB_not, ltB_not, leB_not, Bool.not_eq_true', Bool.not_eq_false', Bool.not_not, Bool.and_eq_true, and_true, true_and]
    exact ⟨hc, rfl, w2, r1, rfl⟩
  · rw [if_neg h0] at r2
    obtain ⟨q, rfl⟩ := r2.2 (by omega)
    refine ⟨_, Fn.of (C := lift_Ones.K) lift_Ones.b (Comes.last progOk lift_Ones.p2 [.list [cv (lv G n o R) z e c, .int 0], w, .list q] ?_ rfl), by rw [if_neg h0]; exact ⟨q, rfl, r2.1⟩⟩
    simp only [EvOk, E.b, E.i, E.v, Env.ext, List.map_cons, List.map_nil, List.cons_append, List.nil_append, List.append_nil, List.getD_cons_zero, List.getD_cons_succ, toI_int', toB_bool', ltB_iff, leB_iff, eqB_iff, eqB_not, ltB_not, leB_not, Bool.not_eq_true', Bool.not_eq_false', Bool.not_not, Bool.and_eq_true, and_true, true_and]
    exact ⟨hc, rfl, w2, r1, rfl⟩
end X
namespace X
open Go Go.Abs Go.Sym
set_option linter.unusedVariables false
set_option linter.unusedSimpArgs false

theorem Next_spec {R : V} {G n o k : Nat} {rows : List (List Nat)} (M : LMod R G n o k rows) {z e m : Nat} {c : Int} (h1 : z + e + m = n) (h2 : -1 ≤ c) (h3 : c < k) :
    Fn prog lift_Next.f [lv G n o R, .int z, .int e, .int c] (if m = 0 then .list [qn 0 0, .int 4] else if (wts G n o rows c e m).sum = 0 then .list [qn 0 0, .int 7] else .list [can (wts G n o rows c (e + 1) (m - 1)).sum (wts G n o rows c e m).sum, .int 0]) := by
  have hc := count_spec M (z := z) (e := e) (c := c) (by omega) h2 h3
  have l1 : ((lv G n o R).get 1).toI = n := rfl
  by_cases hm : m = 0
  · rw [if_pos hm]
    refine Fn.of (C := lift_Next.K) lift_Next.b (Comes.last progOk lift_Next.p1 [.list [cv (lv G n o R) z e c, .int 0]] ?_ rfl)
    simp only [EvOk, E.b, E.i, E.v, Env.ext, List.map_cons, List.map_nil, List.cons_append, List.nil_append, List.append_nil, List.getD_cons_zero, List.getD_cons_succ, toI_int', toB_bool', ltB_iff, leB_iff, eqB_iff, eqB_not, ltB_not, leB_not, Bool.not_eq_true', Bool.not_eq_false', Bool.not_not, Bool.and_eq_true, and_true, true_and]
    simp only [l1]
    exact ⟨hc, rfl, by have := M.n2; omega, by omega⟩
  · rw [if_neg hm]
    obtain ⟨w, w1, w2⟩ := weights_spec M h1 h3
    obtain ⟨w', w3, w4⟩ := weights_spec M (z := z) (e := e + 1) (m := m - 1) (c := c) (by omega) h3
    have hsum := wts_sum_le M c (e := e) (m := m) (by omega)
    have hsum' := wts_sum_le M c (e := e + 1) (m := m - 1) (by omega)
    have hb : 11 * (252 * 20 ^ 10 * 20) ≤ big := by decide
    have hbig : big = 4611686018427387903 := rfl
    have hl := wts_len G n o rows c e m
    have hl' := wts_len G n o rows c (e + 1) (m - 1)
    have lw := w1.len
    have lw' := w3.len
    have hn := M.n2
    generalize wts G n o rows c e m = W at *
    generalize wts G n o rows c (e + 1) (m - 1) = W' at *
    generalize 11 * (252 * 20 ^ 10 * 20) = BB at *
    -- the second sum
    have second : W.sum ≠ 0 → ∀ (t i : Nat) (i' s y : Int), t + i = W'.length → i' = i → s = ((W'.take i).sum : Nat) → Comes lift_Next.K lift_Next.f lift_Next.s2 ⟨[((W.sum : Nat) : Int), y, s, i'], [], [lv G n o R, .int z, .int e, .int c, .list [cv (lv G n o R) z e c, .int 0], w, w']⟩ (.list [can W'.sum W.sum, .int 0]) := by
      intro h0 t
      induction t with
      | zero =>
        intro i i' s y ht hi hs
        have : i = W'.length := by omega
        subst this hi hs
        rw [List.take_length]
        have mk := Make_spec (n := W'.sum) (d := W.sum) (by omega) (by omega) (by omega)
        refine Comes.last progOk lift_Next.p7 [.list [can W'.sum W.sum, .int 0]] ?_ rfl
        simp only [EvOk, E.b, E.i, E.v, Env.ext, List.map_cons, List.map_nil, List.cons_append, List.nil_append, List.append_nil, List.getD_cons_zero, List.getD_cons_succ, toI_int', toB_bool', ltB_iff, leB_iff, eqB_iff, eqB_not, ltB_not, leB_not, Bool.not_eq_true', Bool.not_eq_false', Bool.not_not, Bool.and_eq_true, and_true, true_and]
        exact ⟨by omega, mk⟩
      | succ t ih =>
        intro i i' s y ht hi hs
        subst hi hs
        obtain ⟨d, hd⟩ : ∃ e, W'[i]? = some e := ⟨_, List.getElem?_eq_getElem (by omega)⟩
        have gd := w3.get hd
        have s1 := sum_take W' i d hd
        have s2 := take_sum_le W' (i + 1)
        refine Comes.step progOk lift_Next.p6 [] ?_ (ih (i + 1) ((i : Int) + 1) (((W'.take i).sum : Nat) + (w'.get (i : Int)).toI) y (by omega) (by omega) (by rw [gd]; omega))
        simp only [EvOk, E.b, E.i, E.v, Env.ext, List.map_cons, List.map_nil, List.cons_append, List.nil_append, List.append_nil, List.getD_cons_zero, List.getD_cons_succ, toI_int', toB_bool', ltB_iff, leB_iff, eqB_iff, eqB_not, ltB_not, leB_not, Bool.not_eq_true', Bool.not_eq_false', Bool.not_not, Bool.and_eq_true, and_true, true_and]
        rw [gd]
        omega
    have first : ∀ (t i : Nat) (i' s : Int) (v5 : V), t + i = W.length → i' = i → s = ((W.take i).sum : Nat) → Comes lift_Next.K lift_Next.f lift_Next.s1 ⟨[s, i'], [], [lv G n o R, .int z, .int e, .int c, .list [cv (lv G n o R) z e c, .int 0], w]⟩ (if W.sum = 0 then .list [qn 0 0, .int 7] else .list [can W'.sum W.sum, .int 0]) := by
      intro t
      induction t with
      | zero =>
        intro i i' s v5 ht hi hs
        have : i = W.length := by omega
        subst this hi hs
        rw [List.take_length]
        by_cases h0 : W.sum = 0
        · rw [if_pos h0]
          refine Comes.last progOk lift_Next.p4 [] ?_ rfl
          simp only [EvOk, E.b, E.i, E.v, Env.ext, List.map_cons, List.map_nil, List.cons_append, List.nil_append, List.append_nil, List.getD_cons_zero, List.getD_cons_succ, toI_int', toB_bool', ltB_iff, leB_iff, eqB_iff, eqB_not, ltB_not, leB_not, Bool.not_eq_true', Bool.not_eq_false', Bool.not_not, Bool.and_eq_true, and_true, true_and]; omega
        · rw [if_neg h0]
          refine Comes.step progOk lift_Next.p5 [w'] ?_ (second h0 W'.length 0 0 0 _ (by omega) rfl rfl)
          simp only [EvOk, E.b, E.i, E.v, Env.ext, List.map_cons, List.map_nil, List.cons_append, List.nil_append, List.append_nil, List.getD_cons_zero, List.getD_cons_succ, toI_int', toB_bool', ltB_iff, leB_iff, eqB_iff, eqB_not, ltB_not, leB_not, Bool.not_eq_true', Bool.not_eq_false', Bool.not_not, Bool.and_eq_true, and_true, true_and]
          refine ⟨by omega, by omega, ?_, ?_⟩
          · show -9223372036854775808 ≤ (e : Int) + 1 ∧ (e : Int) + 1 ≤ 9223372036854775807
            omega
          · exact w4
      | succ t ih =>
        intro i i' s v5 ht hi hs
        subst hi hs
        obtain ⟨d, hd⟩ : ∃ e, W[i]? = some e := ⟨_, List.getElem?_eq_getElem (by omega)⟩
        have gd := w1.get hd
        have s1 := sum_take W i d hd
        have s2 := take_sum_le W (i + 1)
        refine Comes.step progOk lift_Next.p3 [] ?_ (ih (i + 1) ((i : Int) + 1) (((W.take i).sum : Nat) + (w.get (i : Int)).toI) v5 (by omega) (by omega) (by rw [gd]; omega))
        simp only [EvOk, E.b, E.i, E.v, Env.ext, List.map_cons, List.map_nil, List.cons_append, List.nil_append, List.append_nil, List.getD_cons_zero, List.getD_cons_succ, toI_int', toB_bool', ltB_iff, leB_iff, eqB_iff, eqB_not, ltB_not, leB_not, Bool.not_eq_true', Bool.not_eq_false', Bool.not_not, Bool.and_eq_true, and_true, true_and]
        rw [gd]
        omega
    refine Fn.of (C := lift_Next.K) lift_Next.b (Comes.step progOk lift_Next.p2 [.list [cv (lv G n o R) z e c, .int 0], w] ?_ (first W.length 0 0 0 w (by omega) rfl rfl))
    simp only [EvOk, E.b, E.i, E.v, Env.ext, List.map_cons, List.map_nil, List.cons_append, List.nil_append, List.append_nil, List.getD_cons_zero, List.getD_cons_succ, toI_int', toB_bool', ltB_iff, leB_iff, eqB_iff, eqB_not, ltB_not, leB_not, Bool.not_eq_true', Bool.not_eq_false', Bool.not_not, Bool.and_eq_true, and_true, true_and]
    simp only [l1]
    exact ⟨hc, rfl, by omega, by omega, w2⟩

theorem wrap_u64 (x : Int) : 0 ≤ IntKind.wrap .u64 x ∧ IntKind.wrap .u64 x < 18446744073709551616 := by
  simp [IntKind.wrap, IntKind.signed, IntKind.bits]
  omega
theorem KnownOf_spec {R : V} {G n o k : Nat} {rows : List (List Nat)} (M : LMod R G n o k rows) (a b d : Int) :
    ∃ (z e : Nat) (c : Int), z + e ≤ n ∧ -1 ≤ c ∧ c < k ∧ Fn prog KnownOf.f [.list [.int a, .int b, .int d], lv G n o R] (.list [.int z, .int e, .int c]) := by
  have l1 : ((lv G n o R).get 1).toI = n := rfl
  have l3 : (lv G n o R).get 3 = R := rfl
  have hR : R.len = (n + 1 : Int) := by simp [V.len, M.rlen]
  obtain ⟨r0, hr0⟩ : ∃ r, rows[0]? = some r := ⟨_, List.getElem?_eq_getElem (by have := M.len; omega)⟩
  have row0 := M.row 0 r0 hr0
  have l0 := row0.1.len
  have l0' : (R.get 0).len = k := by rw [row0.2.1] at l0; exact l0
  have g0 : ((V.list [.int a, .int b, .int d]).get 0).toI = a := rfl
  have g1 : ((V.list [.int a, .int b, .int d]).get 1).toI = b := rfl
  have g2 : ((V.list [.int a, .int b, .int d]).get 2).toI = d := rfl
  have hn := M.n2
  have hk := M.k2
  have a1 := wrap_u64 a
  have b1 := wrap_u64 b
  have d1 := wrap_u64 d
  generalize ha : IntKind.wrap .u64 a = A at *
  generalize hb : IntKind.wrap .u64 b = B at *
  generalize hd : IntKind.wrap .u64 d = D at *
  have tm : ∀ (x y : Int), 0 ≤ x → 0 < y → 0 ≤ x.tmod y ∧ x.tmod y < y := fun x y h1 h2 => ⟨Int.tmod_nonneg _ h1, Int.tmod_lt_of_pos _ h2⟩
  obtain ⟨p1, p2⟩ := tm A ((n : Int) + 1) a1.1 (by omega)
  obtain ⟨z, hz⟩ : ∃ z : Nat, A.tmod ((n : Int) + 1) = z := ⟨(A.tmod ((n : Int) + 1)).toNat, by omega⟩
  obtain ⟨p3, p4⟩ := tm B ((n : Int) - A.tmod ((n : Int) + 1) + 1) b1.1 (by omega)
  obtain ⟨e, he⟩ : ∃ z : Nat, B.tmod ((n : Int) - A.tmod ((n : Int) + 1) + 1) = z := ⟨(B.tmod ((n : Int) - A.tmod ((n : Int) + 1) + 1)).toNat, by omega⟩
  obtain ⟨p5, p6⟩ := tm D ((k : Int) + 1) d1.1 (by omega)
  refine ⟨z, e, D.tmod ((k : Int) + 1) - 1, by omega, by omega, by omega, Fn.of (C := KnownOf.K) KnownOf.b (Comes.last progOk KnownOf.p0 [] ?_ ?_)⟩
  · simp only [EvOk, E.b, E.i, E.v, Env.ext, List.map_cons, List.map_nil, List.cons_append, List.nil_append, List.append_nil, List.getD_cons_zero, List.getD_cons_succ, toI_int', toB_bool', ltB_iff, leB_iff, eqB_iff, eqB_not, ltB_not, leB_not, Bool.not_eq_true', Bool.not_eq_false', Bool.not_not, Bool.and_eq_true, and_true, true_and]
    simp only [l1, l3, l0', g0, g1, g2, ha, hb, hd, hR]
    generalize A.tmod ((n : Int) + 1) = Z at *
    generalize B.tmod ((n : Int) - Z + 1) = Q at *
    generalize D.tmod ((k : Int) + 1) = C at *
    omega
  · simp only [E.i, E.v, Env.ext, List.append_nil, List.getD_cons_zero, List.getD_cons_succ, l1, l3, l0', g0, g1, g2, ha, hb, hd, hz, he]
    rw [← hz, he]
    rfl
end X
namespace X
open Go Go.Abs Go.Sym
set_option linter.unusedVariables false
set_option linter.unusedSimpArgs false

theorem Split_spec {a : V} {l : List Nat} (ha : Ints a l) (hl : ∀ x ∈ l, x ≤ 255) {n G : Nat} (n1 : 1 ≤ n) (n2 : n ≤ 1000) (hG : G ≤ 1000) : ∃ r L, Ints r L ∧ L.length = n ∧ L.sum = G ∧ Fn prog Split.f [.int n, .int G, a] r := by
  have la := ha.len
  have loop : ∀ (t i left : Nat) (i' left' : Int) (out : V) (L : List Nat), t + i = n → i' = i → left' = left → Ints out L → L.length = i → L.sum + left = G → (t = 0 → left = 0) → ∃ r, (∃ L, Ints r L ∧ L.length = n ∧ L.sum = G) ∧ Comes Split.K Split.f Split.s1 ⟨[left', i'], [], [.int n, .int G, a, out]⟩ r := by
    intro t
    induction t with
    | zero =>
      intro i left i' left' out L ht hi hle hout hL hs h0
      subst hi hle
      refine ⟨out, ⟨L, hout, by omega, by have := h0 rfl; omega⟩, Comes.last progOk Split.p4 [] ?_ ?_⟩
      · simp only [EvOk, E.b, E.i, E.v, Env.ext, List.map_cons, List.map_nil, List.cons_append, List.nil_append, List.append_nil, List.getD_cons_zero, List.getD_cons_succ, toI_int', toB_bool', ltB_iff, leB_iff, eqB_iff, eqB_not, ltB_not, leB_not, Bool.not_eq_true', Bool.not_eq_false', Bool.not_not, Bool.and_eq_true, and_true, true_and]; omega
      · simp only [EvOk, E.b, E.i, E.v, Env.ext, List.map_cons, List.map_nil, List.cons_append, List.nil_append, List.append_nil, List.getD_cons_zero, List.getD_cons_succ, toI_int', toB_bool', ltB_iff, leB_iff, eqB_iff, eqB_not, ltB_not, leB_not, Bool.not_eq_true', Bool.not_eq_false', Bool.not_not, Bool.and_eq_true, and_true, true_and]
    | succ t ih =>
      intro i left i' left' out L ht hi hle hout hL hs h0
      subst hi hle
      have lo := hout.len
      by_cases h1 : i < n - 1
      · by_cases h2 : i < l.length
        · obtain ⟨d, hd⟩ : ∃ e, l[i]? = some e := ⟨_, List.getElem?_eq_getElem h2⟩
          have gd := ha.get hd
          have hd255 := hl d (List.mem_of_getElem? hd)
          have hm : ((d : Int)).tmod ((left : Int) + 1) = ((d % (left + 1) : Nat) : Int) := by rw [Int.tmod_eq_emod_of_nonneg (by omega)]; rfl
          have hlt : d % (left + 1) < left + 1 := Nat.mod_lt _ (by omega)
          obtain ⟨r, r1, r2⟩ := ih (i + 1) (left - d % (left + 1)) ((i : Int) + 1) ((left : Int) - ((a.get (i : Int)).toI).tmod ((left : Int) + 1)) (out.snoc (.int (((a.get (i : Int)).toI).tmod ((left : Int) + 1)))) (L ++ [d % (left + 1)]) (by omega) (by omega) (by rw [gd, hm]; omega) (by rw [gd, hm]; exact hout.snoc _) (by simp [hL]) (by simp; omega) (by omega)
          refine ⟨r, r1, Comes.step progOk Split.p1 [] ?_ r2⟩
          simp only [EvOk, E.b, E.i, E.v, Env.ext, List.map_cons, List.map_nil, List.cons_append, List.nil_append, List.append_nil, List.getD_cons_zero, List.getD_cons_succ, toI_int', toB_bool', ltB_iff, leB_iff, eqB_iff, eqB_not, ltB_not, leB_not, Bool.not_eq_true', Bool.not_eq_false', Bool.not_not, Bool.and_eq_true, and_true, true_and]
          rw [gd, hm]
          omega
        · obtain ⟨r, r1, r2⟩ := ih (i + 1) left ((i : Int) + 1) ((left : Int) - 0) (out.snoc (.int 0)) (L ++ [0]) (by omega) (by omega) (by omega) (hout.snoc 0) (by simp [hL]) (by simp; omega) (by omega)
          refine ⟨r, r1, Comes.step progOk Split.p2 [] ?_ r2⟩
          simp only [EvOk, E.b, E.i, E.v, Env.ext, List.map_cons, List.map_nil, List.cons_append, List.nil_append, List.append_nil, List.getD_cons_zero, List.getD_cons_succ, toI_int', toB_bool', ltB_iff, leB_iff, eqB_iff, eqB_not, ltB_not, leB_not, Bool.not_eq_true', Bool.not_eq_false', Bool.not_not, Bool.and_eq_true, and_true, true_and]
          omega
      · obtain ⟨r, r1, r2⟩ := ih (i + 1) 0 ((i : Int) + 1) ((left : Int) - left) (out.snoc (.int left)) (L ++ [left]) (by omega) (by omega) (by omega) (hout.snoc _) (by simp [hL]) (by simp; omega) (by omega)
        refine ⟨r, r1, Comes.step progOk Split.p3 [] ?_ r2⟩
        simp only [EvOk, E.b, E.i, E.v, Env.ext, List.map_cons, List.map_nil, List.cons_append, List.nil_append, List.append_nil, List.getD_cons_zero, List.getD_cons_succ, toI_int', toB_bool', ltB_iff, leB_iff, eqB_iff, eqB_not, ltB_not, leB_not, Bool.not_eq_true', Bool.not_eq_false', Bool.not_not, Bool.and_eq_true, and_true, true_and]
        omega
  obtain ⟨r, ⟨L, h1, h2, h3⟩, r2⟩ := loop n 0 G 0 G .nil [] (by omega) rfl rfl ints_nil rfl (by simp) (by omega)
  exact ⟨r, L, h1, h2, h3, Fn.of (C := Split.K) Split.b (Comes.step progOk Split.p0 [] trivial r2)⟩

theorem snoc_get_lt {R x : V} {j : Nat} (h : j < R.els.length) : (R.snoc x).get (j : Int) = R.get (j : Int) := by
  simp [V.snoc, V.get, show ∀ l, (V.list l).els = l from fun _ => rfl, List.getElem?_append_left h]
theorem snoc_get_eq {R x : V} : (R.snoc x).get (R.els.length : Int) = x := by
  simp [V.snoc, V.get, show ∀ l, (V.list l).els = l from fun _ => rfl]
theorem snoc_els {R x : V} : (R.snoc x).els.length = R.els.length + 1 := by
  simp [V.snoc, show ∀ l, (V.list l).els = l from fun _ => rfl]

theorem DraftLift_spec {g c o w : Nat} {L : V} {l : List Nat} (hg : g ≤ 255) (hc : c ≤ 255) (ho : o ≤ 255) (hw : w ≤ 255) (hL : Ints L l) (hl : ∀ x ∈ l, x ≤ 255) (hll : l.length ≤ 9223372036854775807) :
    ∃ R n' rows, LMod R (1 + g % 20) (1 + c % 10) (o % (1 + g % 20 + 1)) (2 + w % 3) rows ∧ n' = 1 + c % 10 ∧ Fn prog DraftLift.f [.list [.int g, .int c, .int o, .int w, L]] (lv (1 + g % 20) n' (o % (1 + g % 20 + 1)) R) := by
  have e0 : ((V.list [.int g, .int c, .int o, .int w, L]).get 0).toI = g := rfl
  have e1 : ((V.list [.int g, .int c, .int o, .int w, L]).get 1).toI = c := rfl
  have e2 : ((V.list [.int g, .int c, .int o, .int w, L]).get 2).toI = o := rfl
  have e3 : ((V.list [.int g, .int c, .int o, .int w, L]).get 3).toI = w := rfl
  have e4 : (V.list [.int g, .int c, .int o, .int w, L]).get 4 = L := rfl
  have tn : ∀ (x : Nat) (y : Nat), ((x : Int)).tmod (y : Int) = ((x % y : Nat) : Int) := by
    intro x y; rw [Int.tmod_eq_emod_of_nonneg (by omega)]; rfl
  have m0 : ((g : Int)).tmod 20 = ((g % 20 : Nat) : Int) := tn g 20
  have m1 : ((c : Int)).tmod 10 = ((c % 10 : Nat) : Int) := tn c 10
  have m3 : ((w : Int)).tmod 3 = ((w % 3 : Nat) : Int) := tn w 3
  have m2 : ((o : Int)).tmod (1 + ((g % 20 : Nat) : Int) + 1) = ((o % (1 + g % 20 + 1) : Nat) : Int) := by
    rw [← tn]; congr 1
  have lL := hL.len
  generalize hD : V.list [.int g, .int c, .int o, .int w, L] = D at *
  have h20 : g % 20 < 20 := Nat.mod_lt _ (by omega)
  have h10 : c % 10 < 10 := Nat.mod_lt _ (by omega)
  have h3 : w % 3 < 3 := Nat.mod_lt _ (by omega)
  generalize hG : g % 20 = G at *
  generalize hn : c % 10 = n at *
  generalize hk : w % 3 = k at *
  have ho1 : o % (1 + G + 1) < 1 + G + 1 := Nat.mod_lt _ (by omega)
  generalize hO : o % (1 + G + 1) = O at *
  -- rows so far
  let Inv := fun (R : V) (rows : List (List Nat)) (j : Nat) => R.els.length = j ∧ rows.length = j ∧ ∀ (i : Nat) (r : List Nat), rows[i]? = some r → Ints (R.get (i : Int)) r ∧ r.length = 2 + k ∧ r.sum = 1 + G
  have inner : ∀ (j : Nat) (R : V), j ≤ 1 + n → R.els.length = j → (∀ (x : V) (r : List Nat), Ints x r → r.length = 2 + k → r.sum = 1 + G → ∃ q, (∃ R' rows, LMod R' (1 + G) (1 + n) O (2 + k) rows ∧ q = lv (1 + G) (1 + n) O R') ∧ Comes DraftLift.K DraftLift.f DraftLift.s1 ⟨[(j : Int) + 1], [], [D, R.snoc x]⟩ q) →
      ∀ (t i : Nat) (i' : Int) (some_ : V) (s : List Nat), t + i = 4 → i' = i → Ints some_ s → s.length ≤ i → (∀ x ∈ s, x ≤ 255) → ∃ q, (∃ R' rows, LMod R' (1 + G) (1 + n) O (2 + k) rows ∧ q = lv (1 + G) (1 + n) O R') ∧ Comes DraftLift.K DraftLift.f DraftLift.s2 ⟨[i', (j : Int)], [], [D, some_, R]⟩ q := by
    intro j R hj hR H t
    have lR : R.len = j := by simp [V.len, hR]
    induction t with
    | zero =>
      intro i i' some_ s ht hi hs hsl hsx
      subst hi
      obtain ⟨x, r, x1, x2, x3, x4⟩ := Split_spec hs hsx (n := 2 + k) (G := 1 + G) (by omega) (by omega) (by omega)
      rw [Int.natCast_add, Int.natCast_add] at x4
      obtain ⟨q, q1, q2⟩ := H x r x1 x2 x3
      refine ⟨q, q1, Comes.step progOk DraftLift.p5 [x] ?_ q2⟩
      simp only [EvOk, E.b, E.i, E.v, Env.ext, List.map_cons, List.map_nil, List.cons_append, List.nil_append, List.append_nil, List.getD_cons_zero, List.getD_cons_succ, toI_int', toB_bool', ltB_iff, leB_iff, eqB_iff, eqB_not, ltB_not, leB_not, Bool.not_eq_true', Bool.not_eq_false', Bool.not_not, Bool.and_eq_true, and_true, true_and]
      simp only [e0, e3, m0, m3]
      refine ⟨by omega, by omega, by omega, x4, ?_, by omega⟩
      rw [lR]; omega
    | succ t ih =>
      intro i i' some_ s ht hi hs hsl hsx
      subst hi
      have ls := hs.len
      by_cases h0 : 0 < l.length
      · have hx : ((3 : Int) * j + i).tmod L.len = (((3 * j + i) % l.length : Nat) : Int) := by
          rw [lL, ← tn]; congr 1
        have hlt : (3 * j + i) % l.length < l.length := Nat.mod_lt _ h0
        obtain ⟨d, hd⟩ : ∃ e, l[(3 * j + i) % l.length]? = some e := ⟨_, List.getElem?_eq_getElem hlt⟩
        have gd := hL.get hd
        have hd255 := hl d (List.mem_of_getElem? hd)
        obtain ⟨q, q1, q2⟩ := ih (i + 1) ((i : Int) + 1) (some_.snoc (.int ((L.get (((3 : Int) * j + i).tmod L.len)).toI))) (s ++ [d]) (by omega) (by omega) (by rw [hx, gd]; exact hs.snoc d) (by simp; omega) (by intro y hy; simp at hy; rcases hy with hy | hy; exact hsx y hy; omega)
        rw [← e4] at q2
        refine ⟨q, q1, Comes.step progOk DraftLift.p3 [] ?_ q2⟩
        simp only [EvOk, E.b, E.i, E.v, Env.ext, List.map_cons, List.map_nil, List.cons_append, List.nil_append, List.append_nil, List.getD_cons_zero, List.getD_cons_succ, toI_int', toB_bool', ltB_iff, leB_iff, eqB_iff, eqB_not, ltB_not, leB_not, Bool.not_eq_true', Bool.not_eq_false', Bool.not_not, Bool.and_eq_true, and_true, true_and]
        simp only [e4, hx]
        rw [lL]
        omega
      · obtain ⟨x, r, x1, x2, x3, x4⟩ := Split_spec hs hsx (n := 2 + k) (G := 1 + G) (by omega) (by omega) (by omega)
        rw [Int.natCast_add, Int.natCast_add] at x4
        obtain ⟨q, q1, q2⟩ := H x r x1 x2 x3
        refine ⟨q, q1, Comes.step progOk DraftLift.p4 [x] ?_ q2⟩
        simp only [EvOk, E.b, E.i, E.v, Env.ext, List.map_cons, List.map_nil, List.cons_append, List.nil_append, List.append_nil, List.getD_cons_zero, List.getD_cons_succ, toI_int', toB_bool', ltB_iff, leB_iff, eqB_iff, eqB_not, ltB_not, leB_not, Bool.not_eq_true', Bool.not_eq_false', Bool.not_not, Bool.and_eq_true, and_true, true_and]
        simp only [e0, e3, e4, m0, m3]
        refine ⟨by omega, by omega, by omega, by omega, x4, ?_, by omega⟩
        rw [lR]; omega
  have outer : ∀ (t j : Nat) (j' : Int) (R : V) (rows : List (List Nat)), t + j = 2 + n → j' = j → Inv R rows j → ∃ q, (∃ R' rows, LMod R' (1 + G) (1 + n) O (2 + k) rows ∧ q = lv (1 + G) (1 + n) O R') ∧ Comes DraftLift.K DraftLift.f DraftLift.s1 ⟨[j'], [], [D, R]⟩ q := by
    intro t
    induction t with
    | zero =>
      intro j j' R rows ht hj hI
      subst hj
      obtain ⟨i1, i2, i3⟩ := hI
      refine ⟨_, ⟨R, rows, ⟨by omega, by omega, by omega, by omega, by omega, by omega, by omega, by omega, by omega, i3⟩, rfl⟩, Comes.last progOk DraftLift.p2 [] ?_ ?_⟩
      · simp only [EvOk, E.b, E.i, E.v, Env.ext, List.map_cons, List.map_nil, List.cons_append, List.nil_append, List.append_nil, List.getD_cons_zero, List.getD_cons_succ, toI_int', toB_bool', ltB_iff, leB_iff, eqB_iff, eqB_not, ltB_not, leB_not, Bool.not_eq_true', Bool.not_eq_false', Bool.not_not, Bool.and_eq_true, and_true, true_and]
        simp only [e1, m1]
        omega
      · simp only [E.i, E.v, Env.ext, List.append_nil, List.getD_cons_zero, List.getD_cons_succ, e0, e1, e2, m0, m1, m2]
        simp only [lv, Int.natCast_add]
        rfl
    | succ t ih =>
      intro j j' R rows ht hj hI
      subst hj
      obtain ⟨i1, i2, i3⟩ := hI
      obtain ⟨q, q1, q2⟩ := inner j R (by omega) i1 (fun x r h1 h2 h3 => ih (j + 1) ((j : Int) + 1) (R.snoc x) (rows ++ [r]) (by omega) (by omega) ⟨by rw [snoc_els, i1], by simp [i2], by
        intro i r' hr'
        by_cases hi : i < j
        · rw [List.getElem?_append_left (by omega)] at hr'
          rw [snoc_get_lt (by omega)]
          exact i3 i r' hr'
        · have : i = j := by
            have := (List.getElem?_eq_some_iff.1 hr').1
            simp at this; omega
          subst this
          rw [List.getElem?_append_right (by omega), i2, Nat.sub_self] at hr'
          simp at hr'
          subst hr'
          have := snoc_get_eq (R := R) (x := x)
          rw [i1] at this
          rw [this]
          exact ⟨h1, h2, h3⟩⟩) 4 0 0 .nil [] (by omega) rfl ints_nil (by simp) (by simp)
      refine ⟨q, q1, Comes.step progOk DraftLift.p1 [] ?_ q2⟩
      simp only [EvOk, E.b, E.i, E.v, Env.ext, List.map_cons, List.map_nil, List.cons_append, List.nil_append, List.append_nil, List.getD_cons_zero, List.getD_cons_succ, toI_int', toB_bool', ltB_iff, leB_iff, eqB_iff, eqB_not, ltB_not, leB_not, Bool.not_eq_true', Bool.not_eq_false', Bool.not_not, Bool.and_eq_true, and_true, true_and]
      simp only [e1, m1]
      omega
  obtain ⟨q, ⟨R', rows, M, rfl⟩, q2⟩ := outer (2 + n) 0 0 .nil [] (by omega) rfl ⟨rfl, rfl, by simp⟩
  refine ⟨R', 1 + n, rows, M, rfl, Fn.of (C := DraftLift.K) DraftLift.b (Comes.step progOk DraftLift.p0 [] ?_ q2)⟩
  simp only [EvOk, E.b, E.i, E.v, Env.ext, List.map_cons, List.map_nil, List.cons_append, List.nil_append, List.append_nil, List.getD_cons_zero, List.getD_cons_succ, toI_int', toB_bool', ltB_iff, leB_iff, eqB_iff, eqB_not, ltB_not, leB_not, Bool.not_eq_true', Bool.not_eq_false', Bool.not_not, Bool.and_eq_true, and_true, true_and]
  simp only [e0, e1, e2, m0, m1, m2]
  omega
end X
namespace X
open Go Go.Abs Go.Sym
set_option linter.unusedVariables false
set_option linter.unusedSimpArgs false

theorem bin_abs : ∀ m, m ≤ 10 → ∀ k, k ≤ 10 → (k + 1) * bin m (k + 1) = m * bin (m - 1) k := by decide
theorem sum_map_add (l : List Nat) (f g : Nat → Nat) : (l.map fun x => f x + g x).sum = (l.map f).sum + (l.map g).sum := by
  induction l with
  | nil => rfl
  | cons a l ih => simp only [List.map_cons, List.sum_cons, ih]; omega
theorem sum_map_mul (l : List Nat) (c : Nat) (f : Nat → Nat) : (l.map fun x => c * f x).sum = c * (l.map f).sum := by
  induction l with
  | nil => rfl
  | cons a l ih => simp only [List.map_cons, List.sum_cons, ih, Nat.mul_add]
theorem sum_map_mono (l : List Nat) (f g : Nat → Nat) (h : ∀ x ∈ l, f x ≤ g x) : (l.map f).sum ≤ (l.map g).sum := by
  induction l with
  | nil => simp
  | cons a l ih =>
    have h1 := h a (by simp)
    have h2 := ih fun x hx => h x (by simp [hx])
    simp only [List.map_cons, List.sum_cons]; omega
theorem wt_mean {R : V} {G n o k : Nat} {rows : List (List Nat)} (M : LMod R G n o k rows) (c : Int) {z e m : Nat} (h : z + e + m = n) (j : Nat) : j * wt G n o rows c e m j = e * wt G n o rows c e m j + (if m = 0 then 0 else m * wt G n o rows c (e + 1) (m - 1) j) := by
  have hn := M.n2
  unfold wt
  by_cases h1 : e ≤ j ∧ j ≤ e + m
  · rw [if_pos h1]
    by_cases h2 : m = 0
    · rw [if_pos h2]
      have : j = e := by omega
      subst this; omega
    · rw [if_neg h2]
      by_cases h3 : j = e
      · subst h3
        rw [if_neg (by omega)]; omega
      · rw [if_pos (by omega)]
        obtain ⟨d, rfl⟩ : ∃ d, j = e + 1 + d := ⟨j - e - 1, by omega⟩
        have hb := bin_abs m (by omega) d (by omega)
        rw [show e + 1 + d - e = d + 1 from by omega, show e + 1 + d - (e + 1) = d from by omega]
        generalize o ^ (e + 1 + d) = A
        generalize (G - o) ^ (n - (e + 1 + d)) = B
        generalize shw G rows c (e + 1 + d) = S
        have : (e + 1 + d) = e + (d + 1) := by omega
        rw [this, Nat.add_mul]
        congr 1
        calc (d + 1) * (bin m (d + 1) * A * B * S) = ((d + 1) * bin m (d + 1)) * A * B * S := by ac_rfl
          _ = m * bin (m - 1) d * A * B * S := by rw [hb]
          _ = m * (bin (m - 1) d * A * B * S) := by ac_rfl
  · rw [if_neg h1]
    by_cases h2 : m = 0
    · rw [if_pos h2]; simp
    · rw [if_neg h2, if_neg (by omega)]; simp
def tls (G n o : Nat) (rows : List (List Nat)) (c : Int) (e m : Nat) : List Nat := (List.range (n + 1)).map fun j => j * wt G n o rows c e m j
theorem tls_sum {R : V} {G n o k : Nat} {rows : List (List Nat)} (M : LMod R G n o k rows) (c : Int) {z e m : Nat} (h : z + e + m = n) : (tls G n o rows c e m).sum = e * (wts G n o rows c e m).sum + (if m = 0 then 0 else m * (wts G n o rows c (e + 1) (m - 1)).sum) := by
  unfold tls wts
  rw [show (fun j => j * wt G n o rows c e m j) = fun j => e * wt G n o rows c e m j + (if m = 0 then 0 else m * wt G n o rows c (e + 1) (m - 1) j) from funext (wt_mean M c h)]
  rw [sum_map_add, sum_map_mul]
  congr 1
  by_cases h2 : m = 0
  · simp [h2]
    induction List.range (n + 1) with
    | nil => rfl
    | cons a l ih => simpa using ih
  · simp only [if_neg h2]
    rw [sum_map_mul]
theorem range_sum : ∀ n, n ≤ 10 → ((List.range (n + 1)).map fun j => j * (252 * 20 ^ 10 * 20)).sum ≤ 55 * (252 * 20 ^ 10 * 20) := by decide
theorem tls_le {R : V} {G n o k : Nat} {rows : List (List Nat)} (M : LMod R G n o k rows) (c : Int) {e m : Nat} (h : e + m ≤ n) : (tls G n o rows c e m).sum ≤ 55 * (252 * 20 ^ 10 * 20) :=
  Nat.le_trans (sum_map_mono _ _ _ fun j _ => Nat.mul_le_mul_left j (wt_le M c h j)) (range_sum n M.n2)
theorem qn_can (a b : Nat) : can a b = qn (a / a.gcd b) (b / a.gcd b) := rfl
theorem can01 {W : Nat} (h : 0 < W) : can 0 1 = can 0 W := can_eq (by omega) h (by omega)
end X
