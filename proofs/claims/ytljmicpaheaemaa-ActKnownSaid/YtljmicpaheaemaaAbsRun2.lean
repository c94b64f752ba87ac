import Derived.Test.YtljmicpaheaemaaAbsRun
namespace Go.Abs
open Go.RowKit (Below)
set_option linter.unusedSimpArgs false
set_option linter.unusedVariables false
section
variable {P : Program} {μ μ' : Mu} {I : Imm} {h h' : Heap} {w0 w : World}

theorem Sub.new (W : WRel μ I w0 h w) (ob : AObj) : Sub h (h.new ob) := by
  intro b o e
  have := W.live _ _ e
  rw [Heap.get_new, if_neg (by omega)]
  exact e

/-- The abstract machine carries out an operation that may come late; the model does nothing yet. -/
theorem late_step (W : WRel μ I w0 h w) {lo : Nat} (hlo : lo ≤ h.next) {ops : Array Oper} {plan : List (Nat × List Nat)} {β : Nat → Nat} {i : Nat} {chk : List Nat} {rest : List (Nat × List Nat)} {restC : List Nat} {tm tm' : Tr AV} {tmps : Array Value}
    (r : DReg P μ I h true lo h.next ops plan β ((i, chk) :: rest) restC tm tmps) {o : Oper} (ho : ops[i]? = some o) (hl : late o = true) {v : AV} (hs : tmSet tmps.size tm o.dst v = some tm') {h' : Heap}
    (hv : (awanted ops tm o = some true ∧ alight P h tm o = some v ∧ h' = h) ∨ (awanted ops tm o = some true ∧ ∃ ob, afresh P h.next tm o = some (ob, v) ∧ h' = h.new ob) ∨ (awanted ops tm o = some false ∧ v = .tuple [] ∧ h' = h)) :
    DReg P μ I h' true lo h'.next ops plan (fun k => if k = i then h.next else β k) rest restC tm' tmps := by
  obtain ⟨ok, ⟨pre, hpre⟩, hlin, hsub, hpend, hinj, htms⟩ := r
  have hord := ok.ord pre i chk rest hpre o ho
  obtain ⟨_, o2, _⟩ := hord
  obtain ⟨d, hd, hdl, hdn⟩ := o2 hl
  have hiC : i ∈ restC := hsub (i, chk) (List.mem_cons_self)
  obtain ⟨doneC, hlinC⟩ := hlin
  have hlt : ∀ k ∈ restC, k < ops.size := fun k hk => hlinC.lt k (by simp [hk])
  obtain ⟨hdlt, rfl⟩ : d < tmps.size ∧ tm' = tm.set d v := by
    rcases tmSet_spec hs with ⟨z, _⟩ | ⟨t, z, hlt, rfl⟩
    · rw [hd] at z; cases z
    · rw [hd] at z; cases z; exact ⟨hlt, rfl⟩
  -- the heap only grows
  have hnext : h.next ≤ h'.next := by
    rcases hv with ⟨_, _, rfl⟩ | ⟨_, ob, _, rfl⟩ | ⟨_, _, rfl⟩
    · exact Nat.le_refl _
    · exact Nat.le_succ _
    · exact Nat.le_refl _
  have hSub : Sub h h' := by
    rcases hv with ⟨_, _, rfl⟩ | ⟨_, ob, _, rfl⟩ | ⟨_, _, rfl⟩
    · exact fun _ _ e => e
    · exact Sub.new W ob
    · exact fun _ _ e => e
  have hold : ∀ k ∈ restC, k ≠ i → Gone rest k → Gone ((i, chk) :: rest) k := by
    intro k hk hki hg x hx
    rcases List.mem_cons.1 hx with rfl | hx
    · exact Ne.symm hki
    · exact hg x hx
  have hap : ∀ k ∈ restC, k ≠ i → Gone rest k → ∀ o', ops[k]? = some o' → ∀ t ∈ names ops o', tmGet (tm.set d v) t = tmGet tm t := by
    intro k hk hki hg o' ho' t ht
    rw [tmGet_set]
    have : t ≠ d := fun z => by
      subst z
      exact (pend_apart ok hpre (hlt k hk) hki hg).2 (hdn k o' ho' hki ht)
    rw [if_neg this]
  have hlk : ∀ {o' : Oper} {t : Nat}, t ∈ looks ops o' → t ∈ names ops o' := by intro o' t ht; simp [names, ht]
  have hdst : ∀ {o' : Oper} {e : Nat}, o'.dst = some e → e ∈ names ops o' := by intro o' e he; simp [names, he]
  -- the operation itself does not look at what it writes
  have hself : ∀ t ∈ looks ops o, tmGet (tm.set d v) t = tmGet tm t := by
    intro t ht
    rw [tmGet_set, if_neg (fun z => by subst z; exact hdl ht)]
  have hselfd : tmGet (tm.set d v) d = v := by rw [tmGet_set, if_pos rfl]
  have hselfw : awanted ops (tm.set d v) o = awanted ops tm o := awanted_congr fun t ht => hself t (by simp [looks, ht])
  have haw : ∀ k ∈ restC, k ≠ i → Gone rest k → ∀ o', ops[k]? = some o' → awanted ops (tm.set d v) o' = awanted ops tm o' := by
    intro k hk hki hg o' ho'
    exact awanted_congr fun t ht => hap k hk hki hg o' ho' t (hlk (by simp [looks, ht]))
  have hβlt : ∀ k ∈ restC, k ≠ i → Gone rest k → ∀ o', ops[k]? = some o' → isNew o' = true → awanted ops tm o' = some true → β k < h.next := by
    intro k hk hki hg o' ho' hn hw
    obtain ⟨o2, d2, p1, p2, p3, p4, p5⟩ := hpend k hk (hold k hk hki hg)
    rw [ho'] at p1; cases p1
    unfold Pend at p5
    rw [hw] at p5
    simp only [hn, if_true] at p5
    obtain ⟨ob, _, _, _, _, z⟩ := p5
    exact z
  refine ⟨ok, ⟨pre ++ [(i, chk)], by rw [hpre]; simp⟩, ⟨doneC, hlinC⟩, fun x hx => hsub x (List.mem_cons_of_mem _ hx), ?_, ?_, ?_⟩
  · intro k hk hg
    by_cases hki : k = i
    · subst hki
      refine ⟨o, d, ho, hd, hl, hdlt, ?_⟩
      unfold Pend
      rw [hselfw, hselfd, if_pos rfl]
      rcases hv with ⟨h1, h2, rfl⟩ | ⟨h1, ob, h2, rfl⟩ | ⟨h1, rfl, rfl⟩
      · rw [h1]
        simp only
        rw [if_neg (by rw [alight_new h2]; simp)]
        intro _
        rw [alight_congr (eval_congr hself), h2]
      · rw [h1]
        simp only
        rw [if_pos (afresh_new h2)]
        refine ⟨ob, by rw [afresh_congr (eval_congr hself), h2], W.next_none, by rw [Heap.get_new, if_pos rfl], hlo, Nat.lt_succ_self _⟩
      · rw [h1]
    · obtain ⟨o', d', p1, p2, p3, p4, p5⟩ := hpend k hk (hold k hk hki hg)
      refine ⟨o', d', p1, p2, p3, p4, ?_⟩
      rw [if_neg hki]
      have hap' := hap k hk hki hg o' p1
      have p6 := Pend.congr (fun t ht => hap' t (hlk ht)) (hap' d' (hdst p2)) p5
      unfold Pend at p6 ⊢
      cases hw : awanted ops (tm.set d v) o' with
      | none => rw [hw] at p6; exact p6
      | some b =>
        rw [hw] at p6
        cases b with
        | false => exact p6
        | true =>
          simp only at p6 ⊢
          split at p6
          · rename_i hn
            rw [if_pos hn]
            obtain ⟨ob, z1, z2, z3, z4, z5⟩ := p6
            exact ⟨ob, z1, z2, hSub _ _ z3, z4, Nat.lt_of_lt_of_le z5 hnext⟩
          · rename_i hn
            rw [if_neg hn]
            intro hr
            exact alight_sub hSub (p6 hr)
  · intro k1 hk1 k2 hk2 g1 g2 o1 o2 e1 e2 n1 n2 a1 a2 hb
    by_cases h1 : k1 = i
    · by_cases h2 : k2 = i
      · rw [h1, h2]
      · simp only [h1, if_true, if_neg h2] at hb
        rw [haw k2 hk2 h2 g2 o2 e2] at a2
        have := hβlt k2 hk2 h2 g2 o2 e2 n2 a2
        omega
    · rw [haw k1 hk1 h1 g1 o1 e1] at a1
      by_cases h2 : k2 = i
      · simp only [h2, if_true, if_neg h1] at hb
        have := hβlt k1 hk1 h1 g1 o1 e1 n1 a1
        omega
      · rw [haw k2 hk2 h2 g2 o2 e2] at a2
        simp only [if_neg h1, if_neg h2] at hb
        exact hinj k1 hk1 k2 hk2 (hold _ hk1 h1 g1) (hold _ hk2 h2 g2) o1 o2 e1 e2 n1 n2 a1 a2 hb
  · intro t x ht hno
    have htd : t ≠ d := by
      intro z
      subst z
      have hg : Gone rest i := by
        intro x hx hxi
        have hn := ok.nodup
        rw [hpre] at hn
        simp only [List.map_append, List.map_cons] at hn
        rw [List.nodup_append] at hn
        exact (List.nodup_cons.1 hn.2.1).1 (List.mem_map.2 ⟨x, hx, hxi⟩)
      exact hno i hiC hg o ho hd
    rw [Tr.get_set, if_neg htd] at ht
    refine htms t x ht fun k hk hg o' ho' => ?_
    by_cases hki : k = i
    · exact absurd rfl (hki ▸ hg (i, chk) (List.mem_cons_self))
    · exact hno k hk (fun x hx => hg x (List.mem_cons_of_mem _ hx)) o' ho'

theorem stepR_value {b : Frame} {a : Act} {k : List Item} {cs : List Frame} {w w' : World} {ops : Array Oper} {i : Nat} {rest : List Nat} {o : Oper} {v : Value} (ho : ops[i]? = some o) (hw : Region.wanted o (yielded ops a.tmps) = true)
    (hr : (o.semAt b.roundOf a.eval).run P w = .ok (.value v) w') : step P (lone (b.atR a (.inRegion ops (i :: rest) :: k)) cs w) = .next (lone ((b.atR a (.inRegion ops (i :: rest) :: k)).finish v) cs w') := by
  refine step_lone_go ?_
  rw [stepGR_op ho hw]
  simp [stepG.apply, hr]

theorem finish_atR' (b : Frame) (a : Act) (ops : Array Oper) (i : Nat) (rest : List Nat) (k : List Item) (v : Value) {o : Oper} (ho : ops[i]? = some o) {d : Nat} (hd : o.dst = some d) :
    (b.atR a (.inRegion ops (i :: rest) :: k)).finish v = b.atR ⟨a.tmps.setIfInBounds d v, a.defers⟩ (.inRegion ops rest :: k) := by
  rw [Frame.finish_atR, ho, Option.bind_some, hd]; rfl

/-- The model carries out what is ahead of an operation in its own order. -/
theorem drun {lo hi : Nat} {ops : Array Oper} {plan restA : List (Nat × List Nat)} {β : Nat → Nat} {tm : Tr AV} : ∀ (a c : List Nat) (μ : Mu) (w : World) (tmps : Array Value),
    DReg P μ I h true lo hi ops plan β restA (a ++ c) tm tmps → (∀ i ∈ a, Gone restA i) → WRel μ I w0 h w →
    ∃ μ' tmps' w', Ext μ μ' I I ∧ KeepBelow lo μ μ' h h ∧ WRel μ' I w0 h w' ∧ tmps'.size = tmps.size ∧ DReg P μ' I h true lo hi ops plan β restA c tm tmps' ∧
      ∀ (b : Frame) (ds : List Deferred) (k : List Item) (cs : List Frame), Steps P (lone (b.atR ⟨tmps, ds⟩ (.inRegion ops (a ++ c) :: k)) cs w) (lone (b.atR ⟨tmps', ds⟩ (.inRegion ops c :: k)) cs w') := by
  intro a
  induction a with
  | nil => intro c μ w tmps r _ W; exact ⟨μ, tmps, w, .refl _ _, fun _ _ e => ⟨e, rfl⟩, W, rfl, r, fun _ _ _ _ => Steps.refl _ _⟩
  | cons i a ih =>
    intro c μ w tmps r hg W
    rw [List.cons_append] at r
    obtain ⟨ok, hpre, ⟨doneC, hlin⟩, hsub, hpend, hinj, htms⟩ := r
    have hgi := hg i (List.mem_cons_self)
    obtain ⟨o, d, ho, hd, hl, hdlt, hp⟩ := hpend i (List.mem_cons_self) hgi
    have hi_lt : i < ops.size := hlin.lt i (by simp)
    -- where i stands in the plan
    have hplan : ∃ p c' q, plan = p ++ (i, c') :: q := by
      obtain ⟨x, hx, hxi⟩ := List.mem_map.1 (ok.all i hi_lt)
      obtain ⟨x1, x2⟩ := x
      simp at hxi
      subst hxi
      obtain ⟨p, q, e⟩ := List.append_of_mem hx
      exact ⟨p, x2, q, e⟩
    have hnoti : ∀ k ∈ a ++ c, k ≠ i := by
      intro k hk hki
      subst hki
      have := hlin.nodup
      rw [List.nodup_append] at this
      exact (List.nodup_cons.1 this.2.1).1 hk
    -- what it looks at is there
    have hlook : ∀ t ∈ looks ops o, ∀ v, tm.get t = some v → VRel μ I v (tmps.getD t undef) := by
      intro t ht v hv
      refine htms t v hv fun k hk hgk o' ho' hd' => ?_
      obtain ⟨p, c', q, e⟩ : ∃ p c' q, plan = p ++ (k, c') :: q := by
        obtain ⟨x, hx, hxi⟩ := List.mem_map.1 (ok.all k (hlin.lt k (by simp at hk ⊢; exact .inr hk)))
        obtain ⟨x1, x2⟩ := x
        simp at hxi
        subst hxi
        obtain ⟨p, q, e⟩ := List.append_of_mem hx
        exact ⟨p, x2, q, e⟩
      obtain ⟨o2, d2, p1, p2, p3, _, _⟩ := hpend k hk hgk
      rw [ho'] at p1; cases p1
      obtain ⟨d3, q1, q2, q3⟩ := (ok.ord p k c' q e o' ho').2.1 p3
      rw [hd'] at q1; cases q1
      by_cases hki : k = i
      · subst hki; rw [ho] at ho'; cases ho'; exact q2 ht
      · have hanc := q3 i o ho (Ne.symm hki) (by simp [names, ht])
        have hk' : k ∈ a ++ c := by
          rcases List.mem_cons.1 hk with z | z
          · exact absurd z hki
          · exact z
        exact hlin.not_anc rfl hk' hanc
    have heval : ∀ (ds : List Deferred), ∀ x ∈ o.op.operands.toList, VRel μ I (evalOp tm x) (Act.eval { tmps, defers := ds } x) := by
      intro ds x hx
      refine evalOp_rel fun t ht v hv => ?_
      subst ht
      exact hlook t (by simp [looks]; left; exact tmpsOf_mem hx) v hv
    have hguard : ∀ b, awanted ops tm o = some b → Region.wanted o (yielded ops tmps) = b := by
      intro b hb
      exact awanted_rel hb fun t ht v hv => hlook t (by simp [looks, ht]) v hv
    have hnd : ∀ c', o.op ≠ .defer c' := by
      intro c' hc'
      unfold late at hl
      rw [hc'] at hl
      cases hl
    -- one operation done
    have next : ∀ (μ1 : Mu) (w1 : World) (u : Value), Ext μ μ1 I I → KeepBelow lo μ μ1 h h → WRel μ1 I w0 h w1 → VRel μ1 I (tmGet tm d) u →
        (∀ k ∈ a ++ c, Gone restA k → ∀ o', ops[k]? = some o' → isNew o' = true → awanted ops tm o' = some true → μ1 (β k) = none) →
        (∀ (b : Frame) (ds : List Deferred) (k : List Item) (cs : List Frame), step P (lone (b.atR ⟨tmps, ds⟩ (.inRegion ops (i :: (a ++ c)) :: k)) cs w) = .next (lone (b.atR ⟨tmps.setIfInBounds d u, ds⟩ (.inRegion ops (a ++ c) :: k)) cs w1)) →
        ∃ μ' tmps' w', Ext μ μ' I I ∧ KeepBelow lo μ μ' h h ∧ WRel μ' I w0 h w' ∧ tmps'.size = tmps.size ∧ DReg P μ' I h true lo hi ops plan β restA c tm tmps' ∧
          ∀ (b : Frame) (ds : List Deferred) (k : List Item) (cs : List Frame), Steps P (lone (b.atR ⟨tmps, ds⟩ (.inRegion ops (i :: a ++ c) :: k)) cs w) (lone (b.atR ⟨tmps', ds⟩ (.inRegion ops c :: k)) cs w') := by
      intro μ1 w1 u hx1 hk1 W1 hu hfree hstep
      have hD : DReg P μ1 I h true lo hi ops plan β restA (a ++ c) tm (tmps.setIfInBounds d u) := by
        refine ⟨ok, hpre, ⟨doneC ++ [i], by simpa using hlin⟩, fun x hx => ?_, fun k hk hgk => ?_, fun k1 hk1 k2 hk2 => hinj k1 (List.mem_cons_of_mem _ hk1) k2 (List.mem_cons_of_mem _ hk2), fun t x ht hno => ?_⟩
        · rcases List.mem_cons.1 (hsub x hx) with z | z
          · exact absurd z (hgi x hx)
          · exact z
        · obtain ⟨o', d', p1, p2, p3, p4, p5⟩ := hpend k (List.mem_cons_of_mem _ hk) hgk
          refine ⟨o', d', p1, p2, p3, by simpa using p4, ?_⟩
          unfold Pend at p5 ⊢
          cases hw : awanted ops tm o' with
          | none => rw [hw] at p5; exact p5
          | some b =>
            rw [hw] at p5
            cases b with
            | false => exact p5
            | true =>
              simp only at p5 ⊢
              split at p5
              · rename_i hn
                rw [if_pos hn]
                obtain ⟨ob, z1, z2, z3, z4, z5⟩ := p5
                exact ⟨ob, z1, hfree k hk hgk o' p1 hn hw, z3, z4, z5⟩
              · rename_i hn; rw [if_neg hn]; exact p5
        · by_cases htd : t = d
          · subst htd
            have : tmGet tm t = x := by simp [tmGet, ht]
            rw [this] at hu
            simpa [Array.getD_eq_getD_getElem?, hdlt] using hu
          · have := (htms t x ht fun k hk hgk o' ho' hd' => by
              rcases List.mem_cons.1 hk with rfl | hk
              · rw [ho] at ho'; cases ho'; rw [hd] at hd'; cases hd'; exact htd rfl
              · exact hno k hk hgk o' ho' hd').mono hx1
            rw [Array.getD_eq_getD_getElem?] at this ⊢
            rw [Array.getElem?_setIfInBounds_ne (Ne.symm htd)]
            exact this
      obtain ⟨μ', tmps', w', g1, g2, g3, g4, g5, g6⟩ := ih c μ1 w1 _ hD (fun k hk => hg k (List.mem_cons_of_mem _ hk)) W1
      refine ⟨μ', tmps', w', hx1.trans g1, fun b hb e => ?_, g3, by rw [g4]; simp, g5, fun b ds k cs => Steps.head (hstep b ds k cs) (g6 b ds k cs)⟩
      obtain ⟨z1, z2⟩ := hk1 b hb e
      obtain ⟨z3, z4⟩ := g2 b hb z1
      exact ⟨z3, rfl⟩
    unfold Pend at hp
    cases hw : awanted ops tm o with
    | none => rw [hw] at hp; exact hp.elim
    | some bw =>
      rw [hw] at hp
      have hwc := hguard bw hw
      cases bw with
      | false =>
        -- it is passed over
        simp only at hp
        refine next μ w undef (.refl _ _) (fun _ _ e => ⟨e, rfl⟩) W (by rw [hp]; exact .tuple .nil) (fun k hk hgk o' ho' hn hwk => ?_) fun b ds k cs => ?_
        · obtain ⟨o2, d2, p1, p2, p3, p4, p5⟩ := hpend k (List.mem_cons_of_mem _ hk) hgk
          rw [ho'] at p1; cases p1
          unfold Pend at p5
          rw [hwk] at p5
          simp only [hn, if_true] at p5
          obtain ⟨_, _, z, _⟩ := p5
          exact z
        · have := stepR_op_skip (P := P) (b := b) (a := ⟨tmps, ds⟩) (k := k) (cs := cs) (w := w) (ops := ops) (i := i) (rest := a ++ c) (by rw [ho]; simpa using hwc)
          rw [this, ho, Option.bind_some, hd]; rfl
      | true =>
        simp only at hp
        cases hn : isNew o with
        | false =>
          rw [hn] at hp
          simp only [Bool.false_eq_true, if_false] at hp
          have hv := hp (by simp)
          have hrun := fun ds => alight_run (P := P) W hv (heval ds)
          obtain ⟨u, hu1, hu2⟩ := hrun []
          refine next μ w u (.refl _ _) (fun _ _ e => ⟨e, rfl⟩) W hu2 (fun k hk hgk o' ho' hn hwk => ?_) fun b ds k cs => ?_
          · obtain ⟨o2, d2, p1, p2, p3, p4, p5⟩ := hpend k (List.mem_cons_of_mem _ hk) hgk
            rw [ho'] at p1; cases p1
            unfold Pend at p5
            rw [hwk] at p5
            simp only [hn, if_true] at p5
            obtain ⟨_, _, z, _⟩ := p5
            exact z
          · rw [stepR_value (a := ⟨tmps, ds⟩) ho hwc (by rw [Oper.semAt_eq _ _ _ hnd]; exact hu1), finish_atR' _ _ _ _ _ _ _ ho hd]
        | true =>
          rw [hn] at hp
          simp only [if_true] at hp
          obtain ⟨ob, hv, hm, hob, hlo', hhi'⟩ := hp
          obtain ⟨q, u, N, hu1, hu2⟩ := afresh_run (P := P) hv (heval []) w
          have hx1 : Ext μ (upd μ (β i) (w.heap.size, 0, N)) I I := .upd hm
          obtain ⟨hu3, hu4⟩ := hu2 _ hx1 (upd_self _ _ _)
          refine next (upd μ (β i) (w.heap.size, 0, N)) (w.pushBlock q) u hx1 (fun b hb e => ⟨by rw [upd_ne _ _ (by omega)]; exact e, rfl⟩) (W.push hob hm hu3) hu4 (fun k hk hgk o' ho' hnk hwk => ?_) fun b ds k cs => ?_
          · obtain ⟨o2, d2, p1, p2, p3, p4, p5⟩ := hpend k (List.mem_cons_of_mem _ hk) hgk
            rw [ho'] at p1; cases p1
            unfold Pend at p5
            rw [hwk] at p5
            simp only [hnk, if_true] at p5
            obtain ⟨_, _, z, _⟩ := p5
            rw [upd_ne _ _ ?_]
            · exact z
            · intro hb
              exact hnoti k hk (hinj k (List.mem_cons_of_mem _ hk) i (List.mem_cons_self) hgk hgi o' o ho' ho hnk hn hwk hw hb)
          · rw [stepR_value (a := ⟨tmps, ds⟩) ho hwc (by rw [Oper.semAt_eq _ _ _ hnd]; exact hu1), finish_atR' _ _ _ _ _ _ _ ho hd]

end
end Go.Abs
