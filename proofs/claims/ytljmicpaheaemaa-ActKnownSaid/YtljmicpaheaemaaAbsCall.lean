import Derived.Test.YtljmicpaheaemaaAbsMap2
import Derived.Test.YtljmicpaheaemaaAbsRun2
namespace Go.Abs
open Go.RowKit (Below)
set_option linter.unusedSimpArgs false
set_option linter.unusedVariables false

/-- What is taken of the program: closed facts. -/
structure ProgOk (P : Program) : Prop where
  mixed : P.follows .mixedOrders = true
  plain : ∀ (f : FuncId) (fn : Func), P.funcs[f]? = some fn → (fn.name == "runtime.NumGoroutine") = false

section
variable {P : Program} {μ μ' : Mu} {I : Imm} {h h' : Heap} {w0 w w' : World}

/-- What an operation of the abstract machine comes to, and what the model's comes to. -/
def HR (P : Program) (μ : Mu) (I : Imm) (n : ANext) (args : List AV) (r : Result Next) (w' : World) : Prop :=
  match n with
  | .value v => ∃ u, (r = .ok (.value u) w' ∨ (r = .ok .skip w' ∧ u = undef)) ∧ VRel μ I v u
  | .enter f args => ∃ args', r = .ok (.enter f args') w' ∧ VRels μ I args args'.toList
  | .round l => ∃ B o N args', μ l = some (B, o, N) ∧ r = (Instr.yield B args').run P w' ∧ VRels μ I args args'.toList
  | .defer d => ∃ d', r = .ok (.defer d') w' ∧ DRel μ I d d'
  | .recover => r = .ok .recover w'
  | .panic v => ∃ u, r = .halt (.panic u) w' ∧ VRel μ I v u

theorem callFunc_run (K : ProgOk P) {f : FuncId} {fn : Func} {c : Code} (h1 : P.funcs[f]? = some fn) (h2 : fn.body = some c) (args : Array Value) (w : World) : (callFunc f args).run P w = .ok (.enter f args) w := by
  unfold callFunc
  have := K.plain f fn h1
  simp only [Sem.run_bind, run_program, Result.andThen_ok, h1, this, h2, Bool.false_eq_true, if_false, Option.isNone_some, Sem.run_pure]

theorem acall_run (K : ProgOk P) {f : AV} {args : List AV} {n : ANext} (e : acall P f args = some n) {fv : Value} {as_ : Array Value} (r : VRel μ I f fv) (q : VRels μ I args as_.toList) (w : World) :
    HR P μ I n args ((do let d ← Deferred.ofValue fv as_; invoke d.target d.args : Sem Next).run P w) w := by
  unfold acall at e
  split at e
  · rename_i g first captured
    cases hf : P.funcs[g]? with
    | none => rw [hf] at e; cases e
    | some fn =>
      rw [hf] at e
      simp only at e
      cases hb : fn.body with
      | none => rw [hb] at e; cases e
      | some c =>
        rw [hb] at e
        simp at e
        subst e
        cases r with
        | func r1 r2 =>
          rename_i u v
          refine ⟨u ++ as_ ++ v, ?_, ?_⟩
          · simp [Deferred.ofValue, invoke, callFunc_run K hf hb]
          · simpa using (r1.append q).append r2
  · rename_i l
    simp at e
    subst e
    cases r with
    | yieldf hm =>
      rename_i B o N
      refine ⟨B, o, N, as_, hm, ?_, q⟩
      simp [Deferred.ofValue, invoke]
  · cases e

theorem aheavy_run (K : ProgOk P) (W : WRel μ I w0 h w) {tm : Tr AV} {ρ : Operand → Value} {o : Oper} {n : ANext} (e : aheavy P h tm o = some (n, h'))
    (hop : ∀ x ∈ o.op.operands.toList, VRel μ I (evalOp tm x) (ρ x)) :
    ∃ μ' w', Goes P μ μ' I w0 h h' w' ∧ HR P μ' I n (match o.op with | .call c => c.args.toList.map (evalOp tm) | _ => []) ((execOp ρ o).run P w) w' := by
  obtain ⟨dst, op, type, pos, after, guard⟩ := o
  unfold aheavy at e
  unfold execOp
  cases op <;> simp only at e hop ⊢ <;> try (cases e; done)
  case store t a x =>
    cases hs : astore P h t (evalOp tm a) (evalOp tm x) with
    | none => rw [hs] at e; simp at e
    | some h1 =>
      rw [hs] at e
      simp at e
      obtain ⟨rfl, rfl⟩ := e
      obtain ⟨w', h1, h2, h3, h4⟩ := astore_run (P := P) W hs (hop a (by simp [Op.operands])) (hop x (by simp [Op.operands]))
      exact ⟨μ, w', ⟨.refl _ _, h2, by omega, fun b hb e => ⟨e, h4 b e⟩⟩, undef, .inr ⟨by simp [h1], rfl⟩, .bad _⟩
  case mapUpdate t m k x =>
    cases hs : amapUpdate P h t (evalOp tm m) (evalOp tm k) (evalOp tm x) with
    | none => rw [hs] at e; simp at e
    | some h1 =>
      rw [hs] at e
      simp at e
      obtain ⟨rfl, rfl⟩ := e
      obtain ⟨w', h1, h2⟩ := amapUpdate_run (P := P) W hs (hop m (by simp [Op.operands])) (hop k (by simp [Op.operands])) (hop x (by simp [Op.operands]))
      exact ⟨μ, w', h2, undef, .inr ⟨by simp [h1], rfl⟩, .bad _⟩
  case insert t m k x =>
    cases hs : amapUpdate P h t (evalOp tm m) (evalOp tm k) (evalOp tm x) with
    | none => rw [hs] at e; simp at e
    | some h1 =>
      rw [hs] at e
      simp at e
      obtain ⟨rfl, rfl⟩ := e
      obtain ⟨w', h1, h2⟩ := amapUpdate_run (P := P) W hs (hop m (by simp [Op.operands])) (hop k (by simp [Op.operands])) (hop x (by simp [Op.operands]))
      exact ⟨μ, w', h2, undef, .inr ⟨by simp [h1], rfl⟩, .bad _⟩
  case call c =>
    obtain ⟨callee, args, argTypes⟩ := c
    have hargs : VRels μ I (args.toList.map (evalOp tm)) (args.map ρ).toList := by
      have := VRels.map (μ := μ) (I := I) (f := evalOp tm) (g := ρ) (l := args.toList) (fun y hy => hop y (by simp [Op.operands, Call.operands]; right; simpa using hy))
      simpa using this
    cases callee <;> simp only at e <;> try (cases e; done)
    case value f =>
      have hf := hop f (by simp [Op.operands, Call.operands])
      cases ha : acall P (evalOp tm f) (args.toList.map (evalOp tm)) with
      | none => rw [ha] at e; simp at e
      | some n' =>
        rw [ha] at e
        simp at e
        obtain ⟨rfl, rfl⟩ := e
        refine ⟨μ, w, .refl W, ?_⟩
        have := acall_run K ha hf hargs w
        simpa [resolve] using this
    case builtin b =>
      split at e
      · -- append
        rename_i s x st xt hx ht
        rw [hx] at hargs
        have hm : args.map ρ = #[ρ s, ρ x] := by apply Array.ext'; simp [hx]
        have hty : argTypes = #[st, xt] := by apply Array.ext'; simp [ht]
        rw [hm] at hargs
        simp only [List.map_cons, List.map_nil] at hargs
        cases hargs with
        | cons q1 q2 =>
        cases q2 with
        | cons q2 _ =>
        cases ha : aappend P h st xt (evalOp tm s) (evalOp tm x) with
        | none => rw [ha] at e; simp at e
        | some vh =>
          obtain ⟨v, h1⟩ := vh
          rw [ha] at e
          simp at e
          obtain ⟨rfl, rfl⟩ := e
          obtain ⟨μ', u, w', g1, g2, g3⟩ := aappend_run (P := P) (ty := type) W ha q1 q2
          refine ⟨μ', w', g2, u, .inl ?_, g3⟩
          simp [resolve, invoke, builtin, hm, hty, g1]
      · -- copy
        rename_i d s t ts hx ht
        rw [hx] at hargs
        have hm : args.map ρ = #[ρ d, ρ s] := by apply Array.ext'; simp [hx]
        have hty : argTypes[0]? = some t := by rw [← Array.getElem?_toList, ht]; rfl
        rw [hm] at hargs
        simp only [List.map_cons, List.map_nil] at hargs
        cases hargs with
        | cons q1 q2 =>
        cases q2 with
        | cons q2 _ =>
        cases ha : acopy P h t (evalOp tm d) (evalOp tm s) with
        | none => rw [ha] at e; simp at e
        | some vh =>
          obtain ⟨v, h1⟩ := vh
          rw [ha] at e
          simp at e
          obtain ⟨rfl, rfl⟩ := e
          obtain ⟨u, w', g1, g2, g3⟩ := acopy_run (P := P) (ty := type) W hty ha q1 q2
          refine ⟨μ, w', g2, u, .inl ?_, g3⟩
          simp [resolve, invoke, builtin, hm, g1]
      · -- recover
        rename_i hx
        simp at e
        obtain ⟨rfl, rfl⟩ := e
        exact ⟨μ, w, .refl W, by simp [HR, resolve, invoke, builtin]⟩
      · cases e
  case defer c =>
    obtain ⟨callee, args, argTypes⟩ := c
    cases callee <;> simp only at e <;> try (cases e; done)
    rename_i f
    have hf := hop f (by simp [Op.operands, Call.operands])
    have hargs : VRels μ I (args.toList.map (evalOp tm)) (args.map ρ).toList := by
      have := VRels.map (μ := μ) (I := I) (f := evalOp tm) (g := ρ) (l := args.toList) (fun y hy => hop y (by simp [Op.operands, Call.operands]; right; simpa using hy))
      simpa using this
    split at e
    · rename_i g first captured hq
      simp at e
      obtain ⟨rfl, rfl⟩ := e
      rw [hq] at hf
      generalize hfv : ρ f = fv at hf
      cases hf with
      | func r1 r2 =>
        rename_i u v
        refine ⟨μ, w, .refl W, { target := .fn (.func g) v, args := u ++ args.map ρ }, ?_, .func ?_⟩
        · simp [resolve, hfv, Deferred.ofValue]
        · simpa using (r1.append hargs).append r2
    · cases e
  case panic x =>
    have hx := hop x (by simp [Op.operands])
    split at e
    · rename_i t v hq
      simp at e
      obtain ⟨rfl, rfl⟩ := e
      rw [hq] at hx
      generalize hxv : ρ x = xv at hx
      cases hx with
      | iface r =>
        exact ⟨μ, w, .refl W, _, by simp [Instr.panic], .iface r⟩
    · cases e

/-! ### New frames -/
theorem setAll_rel : ∀ {l : List AV} {us : List Value} {tm : Tr AV} {i : Nat} {tmps : Array Value}, TRel μ I tm tmps → VRels μ I l us → (∀ j v, us[j]? = some v → tmps.getD (i + j) undef = v) → TRel μ I (enter.setAll tm i l) tmps
  | [], _, tm, i, tmps, r, .nil, _ => r
  | a :: l, _, tm, i, tmps, r, .cons (u := u) q qs, h => by
    simp only [enter.setAll]
    refine setAll_rel ?_ qs (fun j v e => ?_)
    · intro t x e
      rw [Tr.get_set] at e
      split at e
      · rename_i ht; subst ht; cases e
        have := h 0 u rfl
        simp at this
        rw [Array.getD_eq_getD_getElem?]
        rw [this]; exact q
      · exact r t x e
    · have := h (j + 1) v (by simpa using e)
      rw [← this]
      congr 1
      omega

theorem enter_rel {f : FuncId} {args : List AV} {as_ : Array Value} {d : Bool} {fr : AFrame} (e : enter P f args d = some fr) (q : VRels μ I args as_.toList) (act : Bool) (lo hi : Nat) (h : Heap) :
    FRel P μ I h act lo hi fr (Frame.enter P f as_ (if d = true then .deferred else .normal)) := by
  unfold enter at e
  cases hf : P.funcs[f]? with
  | none => rw [hf] at e; cases e
  | some fn =>
    rw [hf] at e
    simp only at e
    cases hb : fn.body with
    | none => rw [hb] at e; cases e
    | some c =>
      rw [hb] at e
      simp only at e
      obtain ⟨h1, e⟩ := cond_some e
      have h1 := Nat.le_of_ble_eq_true h1
      simp at e
      subst e
      have hl := q.length
      simp only [Array.length_toList] at hl
      refine ⟨rfl, ⟨fn, hf⟩, rfl, .none, .nil, ?_, .run rfl (.plain ?_ ?_)⟩
      · simp [Frame.enter, hf]; omega
      · simp only [Frame.enter, hf, Option.bind_some, hb, Option.getD_some]
        exact .cons (.code c) .nil
      · refine setAll_rel (fun t v e => by simp [Tr.get_nil] at e) q (fun j v e => ?_)
        have hj := (List.getElem?_eq_some_iff.1 e).1
        simp only [Array.length_toList] at hj
        have e' : as_[j]? = some v := by simpa using e
        simp only [Frame.enter, Nat.zero_add]
        rw [Array.getD_eq_getD_getElem?, Array.getElem?_append_left hj, e']
        rfl

theorem sets_rel {r : ALoop} : ∀ {ps : List Tmp} {l : List AV} {us : List Value} {tm tm' : Tr AV} {tmps : Array Value}, roundFrame.sets r tm ps l = some tm' → ps.length = l.length → TRel μ I tm tmps → tmps.size = r.nt → VRels μ I l us →
    TRel μ I tm' ((ps.zip us).foldl (fun tmps (t, a) => tmps.setIfInBounds t a) tmps) ∧ ((ps.zip us).foldl (fun tmps (t, a) => tmps.setIfInBounds t a) tmps).size = r.nt
  | [], l, us, tm, tm', tmps, e, hl, ht, hs, q => by simp [roundFrame.sets] at e; subst e; exact ⟨ht, hs⟩
  | p :: ps, [], us, tm, tm', tmps, e, hl, ht, hs, q => by simp at hl
  | p :: ps, a :: l, _, tm, tm', tmps, e, hl, ht, hs, .cons (u := u) q qs => by
    simp only [roundFrame.sets] at e
    obtain ⟨h1, e⟩ := cond_some e
    have h1 := blt_lt h1
    simp only [List.zip_cons_cons, List.foldl_cons]
    exact sets_rel e (by simpa using hl) (ht.set (by rw [hs]; exact h1) q) (by simpa using hs) qs

theorem round_rel {l B o N : Nat} {r : ALoop} {c : Loop} {args : List AV} {as_ : Array Value} {fr : AFrame} (hm : μ l = some (B, o, N)) (hr : LRel μ I r c) (e : roundFrame l r args = some fr) (q : VRels μ I args as_.toList) (hfn : ∃ fn, P.funcs[r.fn]? = some fn)
    (act : Bool) (lo hi : Nat) (h : Heap) : as_.size = c.params.size ∧
    FRel P μ I h act lo hi fr (Frame.round B c.fn ((c.params.zip as_).foldl (fun tmps (t, a) => tmps.setIfInBounds t a) c.tmps) c.assign c.body .normal) := by
  unfold roundFrame at e
  obtain ⟨h1, e⟩ := cond_some e
  have h1 := beq_tt h1
  have hl := q.length
  simp only [Array.length_toList] at hl
  cases hs : roundFrame.sets r r.tm r.params.toList args with
  | none => rw [hs] at e; cases e
  | some tm =>
    rw [hs] at e
    simp at e
    subst e
    refine ⟨by rw [hr.params]; omega, ?_⟩
    obtain ⟨k1, k2⟩ := sets_rel (r := r) hs (by simpa using h1.symm) hr.tm hr.nt q
    have key : (c.params.zip as_).foldl (fun tmps (t, a) => tmps.setIfInBounds t a) c.tmps = (r.params.toList.zip as_.toList).foldl (fun tmps (t, a) => tmps.setIfInBounds t a) c.tmps := by
      rw [hr.params, ← Array.foldl_toList, Array.toList_zip]
    rw [key]
    refine ⟨hr.fn, hfn, rfl, .some hm, .nil, k2, .run rfl (.plain ?_ k1)⟩
    simp only [Frame.round]
    rw [hr.assign, hr.body]
    exact .cons (.code _) (.cons .beginRound (.cons (.code _) .nil))

end
end Go.Abs
