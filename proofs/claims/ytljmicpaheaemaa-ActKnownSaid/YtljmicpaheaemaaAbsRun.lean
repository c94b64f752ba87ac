import Derived.Test.YtljmicpaheaemaaAbsFrame
namespace Go.Abs
open Go.RowKit (Below)
set_option linter.unusedSimpArgs false
set_option linter.unusedVariables false
section
variable {P : Program} {μ μ' : Mu} {I : Imm} {h h' : Heap} {w0 w : World}

theorem PlanOk.linPlan {ops : Array Oper} {plan : List (Nat × List Nat)} (k : PlanOk ops plan) : Lin ops (plan.map (·.1)) := by
  refine ⟨k.nodup, k.lt, fun a i b e o ho p hp => ?_⟩
  have : ∃ pre c post, plan = pre ++ (i, c) :: post ∧ pre.map (·.1) = a := by
    obtain ⟨l1, l2, h1, h2, h3⟩ := List.map_eq_append_iff.1 e
    obtain ⟨x, l3, h4, h5, h6⟩ := List.map_eq_cons_iff.1 h3
    obtain ⟨x1, x2⟩ := x
    simp at h5
    subst h5
    exact ⟨l1, x2, l3, by rw [h1, h4], h2⟩
  obtain ⟨pre, c, post, h1, h2⟩ := this
  rw [← h2]
  exact (k.ord pre i c post h1 o ho).1 p hp

theorem alight_new {tm : Tr AV} {o : Oper} {v : AV} (e : alight P h tm o = some v) : isNew o = false := by
  obtain ⟨dst, op, type, pos, after, guard⟩ := o
  cases op <;> first | rfl | (simp [alight] at e; done)
theorem afresh_new {b : Nat} {tm : Tr AV} {o : Oper} {x : AObj × AV} (e : afresh P b tm o = some x) : isNew o = true := by
  obtain ⟨dst, op, type, pos, after, guard⟩ := o
  cases op <;> first | rfl | (simp [afresh] at e; done)

theorem awanted_congr {ops : Array Oper} {tm tm' : Tr AV} {o : Oper} (e : ∀ t ∈ guardTmp ops o, tmGet tm' t = tmGet tm t) : awanted ops tm' o = awanted ops tm o := by
  unfold awanted
  cases hg : o.guard with
  | none => rfl
  | some jw =>
    obtain ⟨j, want⟩ := jw
    simp only
    cases hj : ops[j]? with
    | none => rfl
    | some g =>
      simp only
      cases hd : g.dst with
      | none => rfl
      | some d =>
        simp only
        rw [e d (by simp [guardTmp, hg, hj, hd])]

theorem tmpsOf_mem {l : List Operand} {t : Nat} (h : Operand.tmp t ∈ l) : t ∈ tmpsOf l := by
  unfold tmpsOf
  rw [List.mem_filterMap]
  exact ⟨_, h, rfl⟩

theorem eval_congr {ops : Array Oper} {tm tm' : Tr AV} {o : Oper} (e : ∀ t ∈ looks ops o, tmGet tm' t = tmGet tm t) : ∀ x ∈ o.op.operands.toList, evalOp tm' x = evalOp tm x := by
  intro x hx
  cases x with
  | tmp t => exact e t (by simp [looks]; left; exact tmpsOf_mem hx)
  | _ => rfl

/-- What is known of a late operation does not hang on temporaries that it does not name. -/
theorem Pend.congr {act : Bool} {lo hi : Nat} {ops : Array Oper} {tm tm' : Tr AV} {o : Oper} {d β : Nat} (e : ∀ t ∈ looks ops o, tmGet tm' t = tmGet tm t) (ed : tmGet tm' d = tmGet tm d)
    (p : Pend P μ h act lo hi ops tm o d β) : Pend P μ h act lo hi ops tm' o d β := by
  unfold Pend at p ⊢
  rw [awanted_congr (tm := tm) (fun t ht => e t (by simp [looks, ht]))]
  have ee := eval_congr e
  cases hw : awanted ops tm o with
  | none => rw [hw] at p; exact p
  | some b =>
    rw [hw] at p
    cases b with
    | false => simp only at p ⊢; rw [ed]; exact p
    | true =>
      simp only at p ⊢
      rw [ed, alight_congr ee, afresh_congr (tm := tm') (tm' := tm) ee]
      exact p

theorem again_spec {ops : Array Oper} {tm : Tr AV} : ∀ {l : List Nat}, again P h tm ops l = true → ∀ k ∈ l, ∀ o d, ops[k]? = some o → o.dst = some d → awanted ops tm o = some true → alight P h tm o = some (tmGet tm d)
  | [], _, k, hk, _, _, _, _, _ => by cases hk
  | i :: l, e, k, hk, o, d, ho, hd, hw => by
    unfold again at e
    cases hi : ops[i]? with
    | none => rw [hi] at e; cases e
    | some o' =>
      rw [hi] at e
      simp only at e
      cases hd' : o'.dst with
      | none => rw [hd'] at e; cases e
      | some d' =>
        rw [hd'] at e
        simp only at e
        rcases List.mem_cons.1 hk with rfl | hk
        · rw [ho] at hi; cases hi
          rw [hd] at hd'; cases hd'
          rw [hw] at e
          simp only at e
          cases ha : alight P h tm o with
          | none => rw [ha] at e; cases e
          | some v =>
            rw [ha] at e
            simp only [Bool.and_eq_true] at e
            rw [AV.beq_eq _ e.1]
        · have : again P h tm ops l = true := by
            cases hw' : awanted ops tm o' with
            | none => rw [hw'] at e; cases e
            | some b =>
              rw [hw'] at e
              cases b with
              | false => exact e
              | true =>
                simp only at e
                cases ha : alight P h tm o' with
                | none => rw [ha] at e; cases e
                | some v => rw [ha] at e; simp only [Bool.and_eq_true] at e; exact e.2
          exact again_spec this k hk o d ho hd hw

theorem drop_cons {α : Type} {l : List α} {i : Nat} {x : α} {r : List α} (e : l.drop i = x :: r) : l[i]? = some x ∧ l.drop (i + 1) = r ∧ i < l.length := by
  have h0 : l[i]? = some x := by
    have : (l.drop i)[0]? = some x := by rw [e]; rfl
    simpa using this
  refine ⟨h0, ?_, (List.getElem?_eq_some_iff.1 h0).1⟩
  have : l.drop (i + 1) = (l.drop i).drop 1 := by simp
  rw [this, e]; rfl

theorem range'_step {i n : Nat} (h : i < n) : List.range' i (n - i) = i :: List.range' (i + 1) (n - (i + 1)) := by
  have : n - i = (n - (i + 1)) + 1 := by omega
  rw [this, List.range'_succ]

/-- In a plan: a late operation that is done stands apart from one that is done behind it. -/
theorem pend_apart {ops : Array Oper} {plan : List (Nat × List Nat)} (ok : PlanOk ops plan) {pre : List (Nat × List Nat)} {i : Nat} {c : List Nat} {rest : List (Nat × List Nat)} (hp : plan = pre ++ (i, c) :: rest)
    {k : Nat} (hk : k < ops.size) (hne : k ≠ i) (hg : Gone rest k) : k ∈ pre.map (·.1) ∧ ¬ Anc ops i k := by
  have hmem := ok.all k hk
  have hk1 : k ∈ pre.map (·.1) := by
    rw [hp] at hmem
    simp only [List.map_append, List.map_cons, List.mem_append, List.mem_cons] at hmem
    rcases hmem with q | q | q
    · exact q
    · exact absurd q hne
    · obtain ⟨x, hx, rfl⟩ := List.mem_map.1 q
      exact absurd rfl (hg x hx)
  refine ⟨hk1, fun hc => ?_⟩
  obtain ⟨a, b, hab⟩ := List.append_of_mem hk1
  refine ok.linPlan.not_anc (a := a) (b := b ++ i :: rest.map (·.1)) (i := k) (j := i) ?_ (by simp) hc
  rw [hp]
  simp only [List.map_append, List.map_cons, hab]
  simp

theorem finish_fn (c : Frame) (u : Value) : (c.finish u).fn = c.fn := by unfold Frame.finish; split <;> rfl
theorem finish_kind (c : Frame) (u : Value) : (c.finish u).kind = c.kind := by unfold Frame.finish; split <;> rfl
theorem finish_round (c : Frame) (u : Value) : (c.finish u).roundOf = c.roundOf := by unfold Frame.finish; split <;> rfl

/-- An operation that was under way has come to its end. -/
theorem finish_sim {lo hi : Nat} {f f' : AFrame} {c : Frame} {v : AV} {u : Value} (e : afinish P h f v = some f') (hm : f.mode = .run) (r : FRel P μ I h false lo hi f c) (q : VRel μ I v u) :
    FRel P μ I h true lo hi f' (c.finish u) := by
  obtain ⟨r1, r2, r3, r4, r5, r6, r7⟩ := r
  obtain ⟨fn, nt, tm, todo, defers, mode, deferred, roundOf⟩ := f
  simp only at hm r1 r2 r3 r4 r5 r6 r7
  subst hm
  cases r7 with
  | run hmode ht =>
  unfold afinish at e
  simp only at e
  split at e
  · -- a region in the order of the text
    rename_i ops i o rest k
    cases hs : tmSet nt tm o.dst v with
    | none => rw [hs] at e; cases e
    | some tm' =>
      rw [hs] at e
      simp at e
      subst e
      generalize hct : c.todo = ct at ht
      generalize htm : c.tmps = tmps at ht r6
      cases ht with
      | plain hi ht =>
        cases hi with
        | cons h1 h2 =>
          rename_i item kc
          generalize hrest : o :: rest = ors at h1
          cases h1 with
          | reg =>
            obtain ⟨d1, d2, d3⟩ := drop_cons hrest.symm
            have d3' : i < ops.size := by simpa using d3
            have d1' : ops[i]? = some o := by simpa using d1
            rw [range'_step d3'] at hct
            refine ⟨(finish_fn c u).trans r1, r2, (finish_kind c u).trans r3, by rw [finish_round]; exact r4, ?_, ?_, ?_⟩
            · simp [Frame.finish, hct, d1', r5]
            · simp only [Frame.finish, hct, d1', Option.bind_some]
              cases o.dst <;> simp [htm, r6]
            · refine .run (by simp [Frame.finish, hct, hmode]) (.plain ?_ ?_)
              · simp only [Frame.finish, hct]
                rw [← d2]
                exact .cons (.reg ops (i + 1)) h2
              · simp only [Frame.finish, hct, d1', Option.bind_some]
                rcases tmSet_spec hs with ⟨z, rfl⟩ | ⟨t, z, hlt, rfl⟩
                · rw [z]; rw [← htm] at ht; exact ht
                · rw [z, htm]; exact ht.set (by rw [r6]; exact hlt) q
  · -- a region that draws its order
    rename_i ops i chk rest k
    cases ho : ops[i]? with
    | none => rw [ho] at e; cases e
    | some o =>
      rw [ho] at e
      simp only at e
      cases hs : tmSet nt tm o.dst v with
      | none => rw [hs] at e; cases e
      | some tm' =>
        rw [hs] at e
        simp only at e
        obtain ⟨hag, e⟩ := cond_some e
        simp at e
        subst e
        generalize hct : c.todo = ct at ht
        generalize htm : c.tmps = tmps at ht r6
        cases ht with
        | plain hi ht => cases hi with | cons h1 h2 => cases h1
        | drawn hk hd hal =>
          rename_i plan β restC kc
          obtain ⟨i', c', ra, rc, o', q1, q2, q3, q4⟩ := hal rfl
          cases q1
          subst q2
          rw [ho] at q3
          cases q3
          obtain ⟨ok, ⟨pre, hpre⟩, ⟨doneC, hlin⟩, hsub, hpend, hinj, htms⟩ := hd
          have hord := ok.ord pre i chk rest hpre o ho
          obtain ⟨_, _, o3⟩ := hord
          obtain ⟨o4, o5, o6⟩ := o3 q4
          have hnd : ∀ k ∈ rc, k ≠ i := by
            intro k hk hki
            subst hki
            have := hlin.nodup
            rw [List.nodup_append] at this
            exact (List.nodup_cons.1 this.2.1).1 hk
          have hgone : ∀ k ∈ rc, Gone rest k → Gone ((i, chk) :: rest) k := by
            intro k hk hg x hx
            rcases List.mem_cons.1 hx with rfl | hx
            · exact fun q => hnd k hk q.symm
            · exact hg x hx
          have hlt : ∀ k ∈ rc, k < ops.size := fun k hk => hlin.lt k (by simp [hk])
          -- what a pending operation names is not written
          have hapart : ∀ k ∈ rc, Gone rest k → ∀ o', ops[k]? = some o' → late o' = true → ∀ t ∈ names ops o', tmGet tm' t = tmGet tm t := by
            intro k hk hg o' ho' hl t ht
            rcases tmSet_spec hs with ⟨_, rfl⟩ | ⟨d, hd, _, rfl⟩
            · rfl
            · rw [tmGet_set]
              have : t ≠ d := by
                intro z
                subst z
                rcases o6 t hd k o' ho' hl ht with y | y
                · exact (pend_apart ok hpre (hlt k hk) (hnd k hk) hg).2 y
                · exact hlin.not_anc rfl hk y
              rw [if_neg this]
          have hdst : ∀ {o' : Oper} {d : Nat}, o'.dst = some d → d ∈ names ops o' := by
            intro o' d hd; simp [names, hd]
          have hlk : ∀ {o' : Oper} {t : Nat}, t ∈ looks ops o' → t ∈ names ops o' := by
            intro o' t ht; simp [names, ht]
          have haw : ∀ k ∈ rc, Gone rest k → ∀ o', ops[k]? = some o' → late o' = true → awanted ops tm' o' = awanted ops tm o' := by
            intro k hk hg o' ho' hl
            exact awanted_congr fun t ht => hapart k hk hg o' ho' hl t (hlk (by simp [looks, ht]))
          have hsz : (c.finish u).tmps.size = c.tmps.size := by
            simp only [Frame.finish, hct, ho, Option.bind_some]
            cases o.dst <;> simp
          have hD : DReg P μ I h true lo hi ops plan β rest rc tm' (c.finish u).tmps := by
            refine ⟨ok, ⟨pre ++ [(i, chk)], by rw [hpre]; simp⟩, ⟨doneC ++ [i], by simpa using hlin⟩, ?_, ?_, ?_, ?_⟩
            · intro x hx
              have h1 := hsub x (List.mem_cons_of_mem _ hx)
              rcases List.mem_cons.1 h1 with h1 | h1
              · have hn := ok.nodup
                rw [hpre] at hn
                simp only [List.map_append, List.map_cons] at hn
                rw [List.nodup_append] at hn
                exact absurd (List.mem_map.2 ⟨x, hx, h1⟩) (List.nodup_cons.1 hn.2.1).1
              · exact h1
            · intro k hk hg
              obtain ⟨o', d, p1, p2, p3, p4, p5⟩ := hpend k (List.mem_cons_of_mem _ hk) (hgone k hk hg)
              refine ⟨o', d, p1, p2, p3, by rw [hsz, htm]; exact p4, ?_⟩
              have hap := hapart k hk hg o' p1 p3
              have p6 : Pend P μ h false lo hi ops tm' o' d (β k) := p5.congr (fun t ht => hap t (hlk ht)) (hap d (hdst p2))
              unfold Pend at p6 ⊢
              cases hw : awanted ops tm' o' with
              | none => rw [hw] at p6; exact p6
              | some b =>
                rw [hw] at p6
                cases b with
                | false => exact p6
                | true =>
                  simp only at p6 ⊢
                  split at p6
                  · rename_i hn; rw [if_pos hn]; exact p6
                  · rename_i hn
                    rw [if_neg hn]
                    intro _
                    cases hr : reads o' with
                    | false => exact p6 (.inr hr)
                    | true =>
                      obtain ⟨z1, z2⟩ := pend_apart ok hpre (hlt k hk) (hnd k hk) hg
                      rcases o5 k z1 o' p1 p3 hr with y | y
                      · exact absurd y (hlin.not_anc rfl hk)
                      · exact again_spec hag k y o' d p1 p2 hw
            · intro k1 hk1 k2 hk2 g1 g2 o1 o2 e1 e2 n1 n2 a1 a2 hb
              have l1 : late o1 = true := by
                obtain ⟨_, _, p1, _, p3, _⟩ := hpend k1 (List.mem_cons_of_mem _ hk1) (hgone k1 hk1 g1); rw [e1] at p1; cases p1; exact p3
              have l2 : late o2 = true := by
                obtain ⟨_, _, p1, _, p3, _⟩ := hpend k2 (List.mem_cons_of_mem _ hk2) (hgone k2 hk2 g2); rw [e2] at p1; cases p1; exact p3
              rw [haw k1 hk1 g1 o1 e1 l1] at a1
              rw [haw k2 hk2 g2 o2 e2 l2] at a2
              exact hinj k1 (List.mem_cons_of_mem _ hk1) k2 (List.mem_cons_of_mem _ hk2) (hgone _ hk1 g1) (hgone _ hk2 g2) o1 o2 e1 e2 n1 n2 a1 a2 hb
            · intro t x ht hno
              simp only [Frame.finish, hct, ho, Option.bind_some]
              have old : tm.get t = some x → VRel μ I x (tmps.getD t undef) := fun hx => htms t x hx fun k hk hg o' ho' => by
                rcases List.mem_cons.1 hk with rfl | hk
                · exact absurd rfl (hg _ (List.mem_cons_self))
                · exact hno k hk (fun x hx => hg x (List.mem_cons_of_mem _ hx)) o' ho'
              rcases tmSet_spec hs with ⟨z, rfl⟩ | ⟨d, z, hlt', rfl⟩
              · rw [z, htm]; exact old ht
              · rw [z, htm]
                rw [Tr.get_set] at ht
                split at ht
                · rename_i y; subst y; cases ht
                  have : t < tmps.size := by rw [r6]; exact hlt'
                  simpa [Array.getD_eq_getD_getElem?, this] using q
                · rename_i y
                  have := old ht
                  rw [Array.getD_eq_getD_getElem?] at this ⊢
                  rw [Array.getElem?_setIfInBounds_ne (Ne.symm y)]
                  exact this
          refine ⟨(finish_fn c u).trans r1, r2, (finish_kind c u).trans r3, by rw [finish_round]; exact r4, ?_, ?_, ?_⟩
          · simp [Frame.finish, hct, ho, r5]
          · rw [hsz, htm]; exact r6
          · refine .run (by simp [Frame.finish, hct, hmode]) ?_
            have : (c.finish u).todo = .inRegion ops rc :: kc := by simp [Frame.finish, hct]
            rw [this]
            exact .drawn hk hD (by simp)
  · -- the end of a loop over a function
    rename_i l k
    simp at e
    subst e
    generalize hct : c.todo = ct at ht
    generalize htm : c.tmps = tmps at ht r6
    cases ht with
    | plain hi ht =>
      cases hi with
      | cons h1 h2 =>
        cases h1 with
        | inRangeFunc hl =>
          refine ⟨(finish_fn c u).trans r1, r2, (finish_kind c u).trans r3, by rw [finish_round]; exact r4, ?_, ?_, ?_⟩
          · simp [Frame.finish, hct, r5]
          · simp [Frame.finish, hct, htm, r6]
          · refine .run (by simp [Frame.finish, hct, hmode]) (.plain ?_ ?_)
            · simp only [Frame.finish, hct]
              exact .cons (.endRangeFunc hl) h2
            · simp only [Frame.finish, hct, htm]
              exact ht
  · cases e

end
end Go.Abs
