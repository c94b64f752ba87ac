import Derived.Test.YtljmicpaheaemaaAbsMap
namespace Go.Abs
open Go.RowKit (Below)
section
variable {P : Program} {μ : Mu} {I : Imm} {w0 w : World} {h : Heap}

theorem alen_run (W : WRel μ I w0 h w) {t : TypeId} {x v : AV} {u : Value} {ts : Array TypeId} (ht : ts[0]? = some t) (ty : TypeId) (e : alen P h t x = some v) (r : VRel μ I x u) :
    ∃ y, (Builtin.len_ ts ty #[u]).run P w = .ok y w ∧ VRel μ I v y := by
  unfold alen at e
  unfold Builtin.len_
  simp only [ht]
  cases hu : P.underlying t with
  | none => rw [hu] at e; cases e
  | some d =>
    rw [hu] at e
    cases d <;> simp only at e <;> first | (cases e; done) | skip
    case string =>
      cases r <;> simp only at e <;> try cases e
      exact ⟨_, by simp [run_underlying hu]; rfl, .int _ _⟩
    case array n el =>
      simp at e
      subst e
      exact ⟨_, by simp [run_underlying hu]; rfl, .int _ _⟩
    case slice el =>
      cases r <;> simp only at e <;> try cases e
      all_goals exact ⟨_, by simp [run_underlying hu]; rfl, .int _ _⟩
    case map k el =>
      cases r <;> simp only at e <;> try cases e
      case nilm => exact ⟨_, by simp [run_underlying hu]; rfl, .int _ _⟩
      case map b B o N hm =>
        cases hb : h.get b with
        | none => rw [hb] at e; cases e
        | some ob =>
          rw [hb] at e
          split at e
          case h_2 => cases e
          case h_1 es ck hq =>
            cases hq
            simp at e
            subst e
            obtain ⟨obj, ho, hr⟩ := W.objs _ _ _ _ _ hb hm
            cases hr with
            | map hes =>
              rename_i l
              have hlen : es.length = l.size := by
                rw [← Array.length_toList]
                clear ho hb
                generalize l.toList = m at hes
                induction hes with
                | nil => rfl
                | cons _ _ _ _ ih => simp [ih]
              refine ⟨.int .i64 l.size, ?_, by rw [hlen]; exact .int _ _⟩
              have hg : (getObj B).run P w = .ok (.map l ck) w := by
                simp [getObj, Sem.run, ho]
              simp [run_underlying hu, hg, goInt]

theorem foldA_run {f : AV → AV → Option AV} {g : Value → Value → Sem Value} (hf : ∀ a b c u v, f a b = some c → VRel μ I a u → VRel μ I b v → ∃ z, (g u v).run P w = .ok z w ∧ VRel μ I c z) :
    ∀ {l : List AV} {m : List Value} {a c : AV} {u : Value}, foldA f a l = some c → VRel μ I a u → VRels μ I l m → ∃ z, (m.foldlM g u).run P w = .ok z w ∧ VRel μ I c z
  | [], _, a, c, u, e, r, .nil => by simp [foldA] at e; subst e; exact ⟨u, by simp, r⟩
  | b :: l, _, a, c, u, e, r, .cons (u := v) q qs => by
    unfold foldA at e
    cases hb : f a b with
    | none => rw [hb] at e; cases e
    | some d =>
      rw [hb] at e
      obtain ⟨z, h1, h2⟩ := hf a b d u v hb r q
      obtain ⟨y, h3, h4⟩ := foldA_run hf e h2 qs
      exact ⟨y, by simp [List.foldlM_cons, h1, h3], h4⟩

theorem amin2_run (a b c : AV) (u v : Value) (e : amin2 a b = some c) (r : VRel μ I a u) (q : VRel μ I b v) : ∃ z, (Builtin.min2 u v).run P w = .ok z w ∧ VRel μ I c z := by
  unfold amin2 at e
  split at e
  · cases r; cases q
    rename_i k x j y
    simp at e
    subst e
    refine ⟨_, by simp [Builtin.min2]; rfl, ?_⟩
    by_cases hlt : y < x <;> simp [hlt] <;> exact .int _ _
  · cases e
theorem amax2_run (a b c : AV) (u v : Value) (e : amax2 a b = some c) (r : VRel μ I a u) (q : VRel μ I b v) : ∃ z, (Builtin.max2 u v).run P w = .ok z w ∧ VRel μ I c z := by
  unfold amax2 at e
  split at e
  · cases r; cases q
    rename_i k x j y
    simp at e
    subst e
    refine ⟨_, by simp [Builtin.max2]; rfl, ?_⟩
    by_cases hlt : x < y <;> simp [hlt] <;> exact .int _ _
  · cases e

theorem isIface_spec {t : TypeId} (e : isIface P t = some false) : ∃ d, P.underlying t = some d ∧ ∀ ms, d ≠ .interface ms := by
  unfold isIface at e
  cases hu : P.underlying t with
  | none => rw [hu] at e; cases e
  | some d =>
    rw [hu] at e
    refine ⟨d, rfl, fun ms q => ?_⟩
    subst q
    cases e

theorem atypeAssert_run {x v : AV} {u : Value} {t xt : TypeId} {ok : Bool} (e : atypeAssert P x t ok = some v) (r : VRel μ I x u) (w : World) :
    ∃ y, (Instr.typeAssert u xt t ok).run P w = .ok y w ∧ VRel μ I v y := by
  unfold atypeAssert at e
  unfold Instr.typeAssert
  have fails : ∀ (s d : Option TypeId) (m : String), cond ok ((zeroA P t).map fun z => AV.tuple [z, .bool false]) none = some v →
      ∃ y, (if ok = true then (do pure (.tuple #[← zeroValue t, .bool false])) else runtimePanic (.typeAssertion s d t m) : Sem Value).run P w = .ok y w ∧ VRel μ I v y := by
    intro s d m e
    obtain ⟨hk, e⟩ := cond_some e
    subst hk
    cases hz : zeroA P t with
    | none => rw [hz] at e; simp at e
    | some z =>
      rw [hz] at e
      simp at e
      subst e
      obtain ⟨i, zv, hi, hzv, rfl, hrun⟩ := run_zeroValue (P := P) hz w
      exact ⟨.tuple #[zv, .bool false], by simp [hrun], .tuple (.cons (ofV_rel _) (.cons (.bool _) .nil))⟩
  split at e
  case h_2 => cases e
  case h_1 hf =>
    obtain ⟨d, hu, hd⟩ := isIface_spec hf
    have e' := e
    clear e
    simp only [Sem.run_bind, run_underlying hu, Result.andThen_ok]
    cases r <;> simp only at e' <;> try cases e'
    case nili =>
      obtain ⟨y, h1, h2⟩ := fails (some xt) none "" e'
      refine ⟨y, ?_, h2⟩
      cases d <;> first | exact absurd rfl (hd _) | exact h1
    case iface t' a b r =>
      cases hb : Nat.beq t' t with
      | true =>
        rw [hb] at e'
        have hb := beq_tt hb
        subst hb
        simp at e'
        subst e'
        cases ok with
        | true => exact ⟨.tuple #[b, .bool true], by cases d <;> first | exact absurd rfl (hd _) | simp, .tuple (.cons r (.cons (.bool _) .nil))⟩
        | false => exact ⟨b, by cases d <;> first | exact absurd rfl (hd _) | simp, r⟩
      | false =>
        rw [hb] at e'
        have hb := beq_ff hb
        simp only [cond_false] at e'
        obtain ⟨y, h1, h2⟩ := fails (some xt) (some t') "" e'
        refine ⟨y, ?_, h2⟩
        cases d <;> first | exact absurd rfl (hd _) | (simp only [hb, if_false]; exact h1)

theorem RelO.of_opt {tm : Tr AV} {ρ : Operand → Value} {x : Option Operand} (hx : ∀ y ∈ x.toList, VRel μ I (evalOp tm y) (ρ y)) : RelO μ I (optEval tm x) (x.map ρ) := by
  cases x with
  | none => exact .none
  | some y => exact .some (hx y (by simp))

theorem alight_run (W : WRel μ I w0 h w) {tm : Tr AV} {ρ : Operand → Value} {o : Oper} {v : AV} (e : alight P h tm o = some v)
    (hop : ∀ x ∈ o.op.operands.toList, VRel μ I (evalOp tm x) (ρ x)) : ∃ u, (execOp ρ o).run P w = .ok (.value u) w ∧ VRel μ I v u := by
  obtain ⟨dst, op, type, pos, after, guard⟩ := o
  unfold alight at e
  unfold execOp
  have lift : ∀ {s : Sem Value}, (∃ u, s.run P w = .ok u w ∧ VRel μ I v u) → ∃ u, (do pure (.value (← s)) : Sem Next).run P w = .ok (.value u) w ∧ VRel μ I v u := by
    rintro s ⟨u, h1, h2⟩
    exact ⟨u, by simp [h1], h2⟩
  cases op <;> simp only at e hop ⊢ <;> try cases e
  case move x => exact ⟨_, rfl, hop x (by simp [Op.operands])⟩
  case assign x => exact ⟨_, rfl, hop x (by simp [Op.operands])⟩
  case pick c a b =>
    have hc := hop c (by simp [Op.operands])
    unfold pick at e
    split at e
    · rename_i hq; rw [hq] at hc; simp at e; subst e
      generalize ρ c = rc at hc; cases hc
      exact ⟨ρ a, by simp [asBool], hop a (by simp [Op.operands])⟩
    · rename_i hq; rw [hq] at hc; simp at e; subst e
      generalize ρ c = rc at hc; cases hc
      exact ⟨ρ b, by simp [asBool], hop b (by simp [Op.operands])⟩
    · cases e
  case build t parts =>
    refine lift (abuild_run e ?_ w)
    have := PRels.map (μ := μ) (I := I) (f := evalOp tm) (g := ρ) (l := parts.toList) (fun p hp => hop p.2 (by simp [Op.operands]; exact ⟨p.1, by simpa using hp⟩))
    simpa using this
  case load t a => exact lift (aload_run W e (hop a (by simp [Op.operands])))
  case nilCheck x =>
    have hx := hop x (by simp [Op.operands])
    split at e <;> try cases e
    · rename_i hq; rw [hq] at hx; generalize ρ x = r at hx ⊢; cases hx
      exact ⟨_, rfl, .ptr (by assumption)⟩
    · rename_i hq; rw [hq] at hx; generalize ρ x = r at hx ⊢; cases hx
      exact ⟨_, rfl, .vptr (by assumption)⟩
    · rename_i hq; rw [hq] at hx; generalize ρ x = r at hx ⊢; cases hx
      exact ⟨_, rfl, .func (by assumption) (by assumption)⟩
    · rename_i hq; rw [hq] at hx; generalize ρ x = r at hx ⊢; cases hx
      exact ⟨_, rfl, .yieldf (by assumption)⟩
  case binOp op t x y yt =>
    obtain ⟨z, h1, h2⟩ := abin_run (w := w) e (hop x (by simp [Op.operands])) (hop y (by simp [Op.operands]))
    exact lift ⟨z, h1, h2⟩
  case unOp op t x => exact lift (aun_run e (hop x (by simp [Op.operands])) w)
  case convert s t x => exact lift (aconv_run e (hop x (by simp [Op.operands])) w)
  case makeInterface t x =>
    refine lift ?_
    unfold Instr.makeInterface
    split at e
    case h_2 => cases e
    case h_1 hf =>
      obtain ⟨d, hu, hd⟩ := isIface_spec hf
      simp at e
      subst e
      refine ⟨.iface t (ρ x), ?_, .iface (hop x (by simp [Op.operands]))⟩
      cases d <;> first | exact absurd rfl (hd _) | simp [run_underlying hu]
  case makeFunc fn first captured =>
    cases fn <;> simp only at e <;> try cases e
    rename_i f
    refine ⟨.func (.func f) (first.map ρ) (captured.map ρ), rfl, .func ?_ ?_⟩
    · have := VRels.map (μ := μ) (I := I) (f := evalOp tm) (g := ρ) (l := first.toList) (fun y hy => hop y (by simp [Op.operands]; left; simpa using hy))
      simpa using this
    · have := VRels.map (μ := μ) (I := I) (f := evalOp tm) (g := ρ) (l := captured.toList) (fun y hy => hop y (by simp [Op.operands]; right; simpa using hy))
      simpa using this
  case slice t x lo hi mx =>
    cases mx with
    | some m => cases e
    | none =>
      refine lift (aslice_run W e (hop x (by simp [Op.operands])) (RelO.of_opt ?_) (RelO.of_opt ?_))
      · intro y hy; exact hop y (by cases lo <;> simp_all [Op.operands])
      · intro y hy; exact hop y (by cases hi <;> simp_all [Op.operands])
  case fieldAddr t x f => exact lift (afieldAddr_run e (hop x (by simp [Op.operands])) w)
  case field t x f => exact lift (afield_run e (hop x (by simp [Op.operands])) w)
  case indexAddr t x i => exact lift (aindexAddr_run e (hop x (by simp [Op.operands])) (hop i (by simp [Op.operands])) w)
  case index t x i => exact lift (aindex_run e (hop x (by simp [Op.operands])) (hop i (by simp [Op.operands])) w)
  case typeAssert x xt t ok => exact lift (atypeAssert_run e (hop x (by simp [Op.operands])) w)
  case lookup t x ix ok => exact lift (alookup_run W e (hop x (by simp [Op.operands])) (hop ix (by simp [Op.operands])))
  case extract x i =>
    have hx := hop x (by simp [Op.operands])
    refine lift ?_
    unfold Instr.extract
    split at e
    · rename_i vs hq
      rw [hq] at hx; generalize ρ x = r at hx ⊢; cases hx with
      | tuple hr =>
        rename_i us
        obtain ⟨z, h1, h2⟩ := hr.get e
        have h1' : us[i]? = some z := by simpa using h1
        exact ⟨z, by simp [h1'], h2⟩
    · cases e
  case call c =>
    obtain ⟨callee, args, argTypes⟩ := c
    cases callee <;> simp only at e <;> try cases e
    rename_i b
    have hargs : VRels μ I (args.toList.map (evalOp tm)) (args.toList.map ρ) := VRels.map fun y hy => hop y (by simp [Op.operands, Call.operands]; simpa using hy)
    have hrun : ∀ s : Sem Value, (∃ u, s.run P w = .ok u w ∧ VRel μ I v u) → (∀ cs, builtin b argTypes type cs (args.map ρ) = (do pure (.value (← s)))) →
        ∃ u, (do let d ← resolve ρ { callee := .builtin b, args, argTypes } type; invoke d.target d.args).run P w = .ok (.value u) w ∧ VRel μ I v u := by
      rintro s ⟨u, h1, h2⟩ hb
      refine ⟨u, ?_, h2⟩
      simp only [resolve, Sem.run_bind, Sem.run_pure, Result.andThen_ok, invoke]
      rw [hb]
      simp [h1]
    split at e
    · rename_i x hx
      split at e
      · rename_i t ts hts
        rw [hx] at hargs
        simp only [List.map_cons, List.map_nil] at hargs
        cases hargs with
        | cons h1 h2 =>
        obtain ⟨y, h3, h4⟩ := alen_run (P := P) W (ts := argTypes) (by rw [← Array.getElem?_toList, hts]; rfl) type e h1
        refine hrun _ ⟨y, h3, h4⟩ fun cs => ?_
        have : args.map ρ = #[ρ x] := by apply Array.ext'; simp [hx]
        rw [this]; rfl
      · cases e
    · rename_i x xs hx
      rw [hx] at hargs
      simp only [List.map_cons] at hargs
      cases hargs with
      | cons h1 h2 =>
      obtain ⟨y, h3, h4⟩ := foldA_run (P := P) (w := w) (g := Builtin.min2) (fun a b c u v => amin2_run a b c u v) e h1 h2
      refine hrun (Builtin.min_ argTypes type (args.map ρ)) ⟨y, ?_, h4⟩ fun cs => rfl
      unfold Builtin.min_
      simp only [Array.toList_map, hx, List.map_cons]
      exact h3
    · rename_i x xs hx
      rw [hx] at hargs
      simp only [List.map_cons] at hargs
      cases hargs with
      | cons h1 h2 =>
      obtain ⟨y, h3, h4⟩ := foldA_run (P := P) (w := w) (g := Builtin.max2) (fun a b c u v => amax2_run a b c u v) e h1 h2
      refine hrun (Builtin.max_ argTypes type (args.map ρ)) ⟨y, ?_, h4⟩ fun cs => rfl
      unfold Builtin.max_
      simp only [Array.toList_map, hx, List.map_cons]
      exact h3
    · cases e

end
end Go.Abs
