/- Texts of the claim: AbsRun2, AbsCall, AbsMain, AbsStep, AbsExec, AbsExec2, AbsSound, AbsFast, AbsFast2, AbsCut, AbsPost, GlobK. -/
import Derived.Test.YtbapeebnpnjaiaaDoorZ02
import Derived.RangeFuncNested
import Derived.Test.YtbapeebnpnjaiaaDoorZ01
import Derived.ChangeSame
import Derived.RowKit3
import Derived.WalkKit
import Derived.KernelRfl
import Derived.Test.YtbapeebnpnjaiaaDoorCards
import Derived.Test.YtbapeebnpnjaiaaDoorTie
import Derived.ProofKit
import Derived.OpenShut
import Derived.ShutString
import Derived.ChangeOld
import Derived.Below
import Derived.LaidMore
import Derived.Stop.Joined
import Derived.Lib.LaidTab
set_option linter.unusedVariables false
set_option linter.unusedSimpArgs false
namespace Go.Abs
open Go.RowKit (Below)
set_option linter.unusedSimpArgs false
set_option linter.unusedVariables false
set_option linter.unusedSectionVars false
section
variable {P : Program} {μ μ' : Mu} {I : Imm} [GlobI I] {h h' : Heap} {w0 w : World}

theorem Sub.new (W : WRel μ I w0 h w) (ob : AObj) : Sub h (h.new ob) := by
  intro b o e
  have := W.live _ _ e
  rw [Heap.get_new, if_neg (by omega)]
  exact e

/-- The abstract machine carries out an operation that may come late; the model does nothing yet. -/
theorem late_step (W : WRel μ I w0 h w) {lo : Nat} (hlo : lo ≤ h.next) {ops : Array Oper} {plan : List (Nat × List Nat)} {β : Nat → Nat} {i : Nat} {chk : List Nat} {rest : List (Nat × List Nat)} {restC : List Nat} {tm tm' : Tr AV} {tmps : Array Value}
    (r : DReg P μ I h true lo h.next ops plan β ((i, chk) :: rest) restC tm tmps) {o : Oper} (ho : ops[i]? = some o) (hl : late o = true) {v : AV} (hs : tmSet tmps.size tm o.dst v = some tm') {h' : Heap}
    (hv : (awanted ops tm o = some true ∧ alight P h tm o = some v ∧ h' = h) ∨ (awanted ops tm o = some true ∧ ∃ ob, afresh P h.next tm o = some (ob, v) ∧ h' = h.new ob) ∨ (awanted ops tm o = some false ∧ v = .tuple [] ∧ h' = h)) :
    DReg P μ I h' true lo h'.next ops plan (fun k => if k = i then h.next else β k) rest restC tm' tmps := by
  obtain ⟨ok, ⟨pre, hpre⟩, hlin, hsub, hpend, hinj, htms⟩ := r
  have hord := ok.ord pre i chk rest hpre o ho
  obtain ⟨_, o2, _⟩ := hord
  obtain ⟨d, hd, hdl, hdn⟩ := o2 hl
  have hiC : i ∈ restC := hsub (i, chk) (List.mem_cons_self)
  obtain ⟨doneC, hlinC⟩ := hlin
  have hlt : ∀ k ∈ restC, k < ops.size := fun k hk => hlinC.lt k (by simp [hk])
  obtain ⟨hdlt, rfl⟩ : d < tmps.size ∧ tm' = tm.set d v := by
    rcases tmSet_spec hs with ⟨z, _⟩ | ⟨t, z, hlt, rfl⟩
    · rw [hd] at z; cases z
    · rw [hd] at z; cases z; exact ⟨hlt, rfl⟩
  -- the heap only grows
  have hnext : h.next ≤ h'.next := by
    rcases hv with ⟨_, _, rfl⟩ | ⟨_, ob, _, rfl⟩ | ⟨_, _, rfl⟩
    · exact Nat.le_refl _
    · exact Nat.le_succ _
    · exact Nat.le_refl _
  have hSub : Sub h h' := by
    rcases hv with ⟨_, _, rfl⟩ | ⟨_, ob, _, rfl⟩ | ⟨_, _, rfl⟩
    · exact fun _ _ e => e
    · exact Sub.new W ob
    · exact fun _ _ e => e
  have hold : ∀ k ∈ restC, k ≠ i → Gone rest k → Gone ((i, chk) :: rest) k := by
    intro k hk hki hg x hx
    rcases List.mem_cons.1 hx with rfl | hx
    · exact Ne.symm hki
    · exact hg x hx
  have hap : ∀ k ∈ restC, k ≠ i → Gone rest k → ∀ o', ops[k]? = some o' → ∀ t ∈ names ops o', tmGet (tm.set d v) t = tmGet tm t := by
    intro k hk hki hg o' ho' t ht
    rw [tmGet_set]
    have : t ≠ d := fun z => by
      subst z
      exact (pend_apart ok hpre (hlt k hk) hki hg).2 (hdn k o' ho' hki ht)
    rw [if_neg this]
  have hlk : ∀ {o' : Oper} {t : Nat}, t ∈ looks ops o' → t ∈ names ops o' := by intro o' t ht; simp [names, ht]
  have hdst : ∀ {o' : Oper} {e : Nat}, o'.dst = some e → e ∈ names ops o' := by intro o' e he; simp [names, he]
  -- the operation itself does not look at what it writes
  have hself : ∀ t ∈ looks ops o, tmGet (tm.set d v) t = tmGet tm t := by
    intro t ht
    rw [tmGet_set, if_neg (fun z => by subst z; exact hdl ht)]
  have hselfd : tmGet (tm.set d v) d = v := by rw [tmGet_set, if_pos rfl]
  have hselfw : awanted ops (tm.set d v) o = awanted ops tm o := awanted_congr fun t ht => hself t (by simp [looks, ht])
  have haw : ∀ k ∈ restC, k ≠ i → Gone rest k → ∀ o', ops[k]? = some o' → awanted ops (tm.set d v) o' = awanted ops tm o' := by
    intro k hk hki hg o' ho'
    exact awanted_congr fun t ht => hap k hk hki hg o' ho' t (hlk (by simp [looks, ht]))
  have hβlt : ∀ k ∈ restC, k ≠ i → Gone rest k → ∀ o', ops[k]? = some o' → isNew o' = true → awanted ops tm o' = some true → β k < h.next := by
    intro k hk hki hg o' ho' hn hw
    obtain ⟨o2, d2, p1, p2, p3, p4, p5⟩ := hpend k hk (hold k hk hki hg)
    rw [ho'] at p1; cases p1
    unfold Pend at p5
    rw [hw] at p5
    simp only [hn, if_true] at p5
    obtain ⟨ob, _, _, _, _, z⟩ := p5
    exact z
  refine ⟨ok, ⟨pre ++ [(i, chk)], by rw [hpre]; simp⟩, ⟨doneC, hlinC⟩, fun x hx => hsub x (List.mem_cons_of_mem _ hx), ?_, ?_, ?_⟩
  · intro k hk hg
    by_cases hki : k = i
    · subst hki
      refine ⟨o, d, ho, hd, hl, hdlt, ?_⟩
      unfold Pend
      rw [hselfw, hselfd, if_pos rfl]
      rcases hv with ⟨h1, h2, rfl⟩ | ⟨h1, ob, h2, rfl⟩ | ⟨h1, rfl, rfl⟩
      · rw [h1]
        simp only
        rw [if_neg (by rw [alight_new h2]; simp)]
        intro _
        rw [alight_congr (eval_congr hself), h2]
      · rw [h1]
        simp only
        rw [if_pos (afresh_new h2)]
        refine ⟨ob, by rw [afresh_congr (eval_congr hself), h2], W.next_none, by rw [Heap.get_new, if_pos rfl], hlo, Nat.lt_succ_self _⟩
      · rw [h1]
    · obtain ⟨o', d', p1, p2, p3, p4, p5⟩ := hpend k hk (hold k hk hki hg)
      refine ⟨o', d', p1, p2, p3, p4, ?_⟩
      rw [if_neg hki]
      have hap' := hap k hk hki hg o' p1
      have p6 := Pend.congr (fun t ht => hap' t (hlk ht)) (hap' d' (hdst p2)) p5
      unfold Pend at p6 ⊢
      cases hw : awanted ops (tm.set d v) o' with
      | none => rw [hw] at p6; exact p6
      | some b =>
        rw [hw] at p6
        cases b with
        | false => exact p6
        | true =>
          simp only at p6 ⊢
          split at p6
          · rename_i hn
            rw [if_pos hn]
            obtain ⟨ob, z1, z2, z3, z4, z5⟩ := p6
            exact ⟨ob, z1, z2, hSub _ _ z3, z4, Nat.lt_of_lt_of_le z5 hnext⟩
          · rename_i hn
            rw [if_neg hn]
            intro hr
            exact alight_sub hSub (p6 hr)
  · intro k1 hk1 k2 hk2 g1 g2 o1 o2 e1 e2 n1 n2 a1 a2 hb
    by_cases h1 : k1 = i
    · by_cases h2 : k2 = i
      · rw [h1, h2]
      · simp only [h1, if_true, if_neg h2] at hb
        rw [haw k2 hk2 h2 g2 o2 e2] at a2
        have := hβlt k2 hk2 h2 g2 o2 e2 n2 a2
        omega
    · rw [haw k1 hk1 h1 g1 o1 e1] at a1
      by_cases h2 : k2 = i
      · simp only [h2, if_true, if_neg h1] at hb
        have := hβlt k1 hk1 h1 g1 o1 e1 n1 a1
        omega
      · rw [haw k2 hk2 h2 g2 o2 e2] at a2
        simp only [if_neg h1, if_neg h2] at hb
        exact hinj k1 hk1 k2 hk2 (hold _ hk1 h1 g1) (hold _ hk2 h2 g2) o1 o2 e1 e2 n1 n2 a1 a2 hb
  · intro t x ht hno
    have htd : t ≠ d := by
      intro z
      subst z
      have hg : Gone rest i := by
        intro x hx hxi
        have hn := ok.nodup
        rw [hpre] at hn
        simp only [List.map_append, List.map_cons] at hn
        rw [List.nodup_append] at hn
        exact (List.nodup_cons.1 hn.2.1).1 (List.mem_map.2 ⟨x, hx, hxi⟩)
      exact hno i hiC hg o ho hd
    rw [Tr.get_set, if_neg htd] at ht
    refine htms t x ht fun k hk hg o' ho' => ?_
    by_cases hki : k = i
    · exact absurd rfl (hki ▸ hg (i, chk) (List.mem_cons_self))
    · exact hno k hk (fun x hx => hg x (List.mem_cons_of_mem _ hx)) o' ho'

theorem stepR_value {b : Frame} {a : Act} {k : List Item} {cs : List Frame} {w w' : World} {ops : Array Oper} {i : Nat} {rest : List Nat} {o : Oper} {v : Value} (ho : ops[i]? = some o) (hw : Region.wanted o (yielded ops a.tmps) = true)
    (hr : (o.semAt b.roundOf a.eval).run P w = .ok (.value v) w') : step P (lone (b.atR a (.inRegion ops (i :: rest) :: k)) cs w) = .next (lone ((b.atR a (.inRegion ops (i :: rest) :: k)).finish v) cs w') := by
  refine step_lone_go ?_
  rw [stepGR_op ho hw]
  simp [stepG.apply, hr]

theorem finish_atR' (b : Frame) (a : Act) (ops : Array Oper) (i : Nat) (rest : List Nat) (k : List Item) (v : Value) {o : Oper} (ho : ops[i]? = some o) {d : Nat} (hd : o.dst = some d) :
    (b.atR a (.inRegion ops (i :: rest) :: k)).finish v = b.atR ⟨a.tmps.setIfInBounds d v, a.defers⟩ (.inRegion ops rest :: k) := by
  rw [Frame.finish_atR, ho, Option.bind_some, hd]; rfl

/-- The model carries out what is ahead of an operation in its own order. -/
theorem drun {lo hi : Nat} {ops : Array Oper} {plan restA : List (Nat × List Nat)} {β : Nat → Nat} {tm : Tr AV} : ∀ (a c : List Nat) (μ : Mu) (w : World) (tmps : Array Value),
    DReg P μ I h true lo hi ops plan β restA (a ++ c) tm tmps → (∀ i ∈ a, Gone restA i) → WRel μ I w0 h w →
    ∃ μ' tmps' w', Ext μ μ' I I ∧ KeepBelow lo μ μ' h h ∧ WRel μ' I w0 h w' ∧ tmps'.size = tmps.size ∧ DReg P μ' I h true lo hi ops plan β restA c tm tmps' ∧
      ∀ (b : Frame) (ds : List Deferred) (k : List Item) (cs : List Frame), Steps P (lone (b.atR ⟨tmps, ds⟩ (.inRegion ops (a ++ c) :: k)) cs w) (lone (b.atR ⟨tmps', ds⟩ (.inRegion ops c :: k)) cs w') := by
  intro a
  induction a with
  | nil => intro c μ w tmps r _ W; exact ⟨μ, tmps, w, .refl _ _, fun _ _ e => ⟨e, rfl⟩, W, rfl, r, fun _ _ _ _ => Steps.refl _ _⟩
  | cons i a ih =>
    intro c μ w tmps r hg W
    rw [List.cons_append] at r
    obtain ⟨ok, hpre, ⟨doneC, hlin⟩, hsub, hpend, hinj, htms⟩ := r
    have hgi := hg i (List.mem_cons_self)
    obtain ⟨o, d, ho, hd, hl, hdlt, hp⟩ := hpend i (List.mem_cons_self) hgi
    have hi_lt : i < ops.size := hlin.lt i (by simp)
    -- where i stands in the plan
    have hplan : ∃ p c' q, plan = p ++ (i, c') :: q := by
      obtain ⟨x, hx, hxi⟩ := List.mem_map.1 (ok.all i hi_lt)
      obtain ⟨x1, x2⟩ := x
      simp at hxi
      subst hxi
      obtain ⟨p, q, e⟩ := List.append_of_mem hx
      exact ⟨p, x2, q, e⟩
    have hnoti : ∀ k ∈ a ++ c, k ≠ i := by
      intro k hk hki
      subst hki
      have := hlin.nodup
      rw [List.nodup_append] at this
      exact (List.nodup_cons.1 this.2.1).1 hk
    -- what it looks at is there
    have hlook : ∀ t ∈ looks ops o, ∀ v, tm.get t = some v → VRel μ I v (tmps.getD t undef) := by
      intro t ht v hv
      refine htms t v hv fun k hk hgk o' ho' hd' => ?_
      obtain ⟨p, c', q, e⟩ : ∃ p c' q, plan = p ++ (k, c') :: q := by
        obtain ⟨x, hx, hxi⟩ := List.mem_map.1 (ok.all k (hlin.lt k (by simp at hk ⊢; exact .inr hk)))
        obtain ⟨x1, x2⟩ := x
        simp at hxi
        subst hxi
        obtain ⟨p, q, e⟩ := List.append_of_mem hx
        exact ⟨p, x2, q, e⟩
      obtain ⟨o2, d2, p1, p2, p3, _, _⟩ := hpend k hk hgk
      rw [ho'] at p1; cases p1
      obtain ⟨d3, q1, q2, q3⟩ := (ok.ord p k c' q e o' ho').2.1 p3
      rw [hd'] at q1; cases q1
      by_cases hki : k = i
      · subst hki; rw [ho] at ho'; cases ho'; exact q2 ht
      · have hanc := q3 i o ho (Ne.symm hki) (by simp [names, ht])
        have hk' : k ∈ a ++ c := by
          rcases List.mem_cons.1 hk with z | z
          · exact absurd z hki
          · exact z
        exact hlin.not_anc rfl hk' hanc
    have heval : ∀ (ds : List Deferred), ∀ x ∈ o.op.operands.toList, VRel μ I (evalOp tm x) (Act.eval { tmps, defers := ds } x) := by
      intro ds x hx
      refine evalOp_rel fun t ht v hv => ?_
      subst ht
      exact hlook t (by simp [looks]; left; exact tmpsOf_mem hx) v hv
    have hguard : ∀ b, awanted ops tm o = some b → Region.wanted o (yielded ops tmps) = b := by
      intro b hb
      exact awanted_rel hb fun t ht v hv => hlook t (by simp [looks, ht]) v hv
    have hnd : ∀ c', o.op ≠ .defer c' := by
      intro c' hc'
      unfold late at hl
      rw [hc'] at hl
      cases hl
    -- one operation done
    have next : ∀ (μ1 : Mu) (w1 : World) (u : Value), Ext μ μ1 I I → KeepBelow lo μ μ1 h h → WRel μ1 I w0 h w1 → VRel μ1 I (tmGet tm d) u →
        (∀ k ∈ a ++ c, Gone restA k → ∀ o', ops[k]? = some o' → isNew o' = true → awanted ops tm o' = some true → μ1 (β k) = none) →
        (∀ (b : Frame) (ds : List Deferred) (k : List Item) (cs : List Frame), step P (lone (b.atR ⟨tmps, ds⟩ (.inRegion ops (i :: (a ++ c)) :: k)) cs w) = .next (lone (b.atR ⟨tmps.setIfInBounds d u, ds⟩ (.inRegion ops (a ++ c) :: k)) cs w1)) →
        ∃ μ' tmps' w', Ext μ μ' I I ∧ KeepBelow lo μ μ' h h ∧ WRel μ' I w0 h w' ∧ tmps'.size = tmps.size ∧ DReg P μ' I h true lo hi ops plan β restA c tm tmps' ∧
          ∀ (b : Frame) (ds : List Deferred) (k : List Item) (cs : List Frame), Steps P (lone (b.atR ⟨tmps, ds⟩ (.inRegion ops (i :: a ++ c) :: k)) cs w) (lone (b.atR ⟨tmps', ds⟩ (.inRegion ops c :: k)) cs w') := by
      intro μ1 w1 u hx1 hk1 W1 hu hfree hstep
      have hD : DReg P μ1 I h true lo hi ops plan β restA (a ++ c) tm (tmps.setIfInBounds d u) := by
        refine ⟨ok, hpre, ⟨doneC ++ [i], by simpa using hlin⟩, fun x hx => ?_, fun k hk hgk => ?_, fun k1 hk1 k2 hk2 => hinj k1 (List.mem_cons_of_mem _ hk1) k2 (List.mem_cons_of_mem _ hk2), fun t x ht hno => ?_⟩
        · rcases List.mem_cons.1 (hsub x hx) with z | z
          · exact absurd z (hgi x hx)
          · exact z
        · obtain ⟨o', d', p1, p2, p3, p4, p5⟩ := hpend k (List.mem_cons_of_mem _ hk) hgk
          refine ⟨o', d', p1, p2, p3, by simpa using p4, ?_⟩
          unfold Pend at p5 ⊢
          cases hw : awanted ops tm o' with
          | none => rw [hw] at p5; exact p5
          | some b =>
            rw [hw] at p5
            cases b with
            | false => exact p5
            | true =>
              simp only at p5 ⊢
              split at p5
              · rename_i hn
                rw [if_pos hn]
                obtain ⟨ob, z1, z2, z3, z4, z5⟩ := p5
                exact ⟨ob, z1, hfree k hk hgk o' p1 hn hw, z3, z4, z5⟩
              · rename_i hn; rw [if_neg hn]; exact p5
        · by_cases htd : t = d
          · subst htd
            have : tmGet tm t = x := by simp [tmGet, ht]
            rw [this] at hu
            simpa [Array.getD_eq_getD_getElem?, hdlt] using hu
          · have := (htms t x ht fun k hk hgk o' ho' hd' => by
              rcases List.mem_cons.1 hk with rfl | hk
              · rw [ho] at ho'; cases ho'; rw [hd] at hd'; cases hd'; exact htd rfl
              · exact hno k hk hgk o' ho' hd').mono hx1
            rw [Array.getD_eq_getD_getElem?] at this ⊢
            rw [Array.getElem?_setIfInBounds_ne (Ne.symm htd)]
            exact this
      obtain ⟨μ', tmps', w', g1, g2, g3, g4, g5, g6⟩ := ih c μ1 w1 _ hD (fun k hk => hg k (List.mem_cons_of_mem _ hk)) W1
      refine ⟨μ', tmps', w', hx1.trans g1, fun b hb e => ?_, g3, by rw [g4]; simp, g5, fun b ds k cs => Steps.head (hstep b ds k cs) (g6 b ds k cs)⟩
      obtain ⟨z1, z2⟩ := hk1 b hb e
      obtain ⟨z3, z4⟩ := g2 b hb z1
      exact ⟨z3, rfl⟩
    unfold Pend at hp
    cases hw : awanted ops tm o with
    | none => rw [hw] at hp; exact hp.elim
    | some bw =>
      rw [hw] at hp
      have hwc := hguard bw hw
      cases bw with
      | false =>
        -- it is passed over
        simp only at hp
        refine next μ w undef (.refl _ _) (fun _ _ e => ⟨e, rfl⟩) W (by rw [hp]; exact .tuple .nil) (fun k hk hgk o' ho' hn hwk => ?_) fun b ds k cs => ?_
        · obtain ⟨o2, d2, p1, p2, p3, p4, p5⟩ := hpend k (List.mem_cons_of_mem _ hk) hgk
          rw [ho'] at p1; cases p1
          unfold Pend at p5
          rw [hwk] at p5
          simp only [hn, if_true] at p5
          obtain ⟨_, _, z, _⟩ := p5
          exact z
        · have := stepR_op_skip (P := P) (b := b) (a := ⟨tmps, ds⟩) (k := k) (cs := cs) (w := w) (ops := ops) (i := i) (rest := a ++ c) (by rw [ho]; simpa using hwc)
          rw [this, ho, Option.bind_some, hd]; rfl
      | true =>
        simp only at hp
        cases hn : isNew o with
        | false =>
          rw [hn] at hp
          simp only [Bool.false_eq_true, if_false] at hp
          have hv := hp (by simp)
          have hrun := fun ds => alight_run (P := P) W hv (heval ds)
          obtain ⟨u, hu1, hu2⟩ := hrun []
          refine next μ w u (.refl _ _) (fun _ _ e => ⟨e, rfl⟩) W hu2 (fun k hk hgk o' ho' hn hwk => ?_) fun b ds k cs => ?_
          · obtain ⟨o2, d2, p1, p2, p3, p4, p5⟩ := hpend k (List.mem_cons_of_mem _ hk) hgk
            rw [ho'] at p1; cases p1
            unfold Pend at p5
            rw [hwk] at p5
            simp only [hn, if_true] at p5
            obtain ⟨_, _, z, _⟩ := p5
            exact z
          · rw [stepR_value (a := ⟨tmps, ds⟩) ho hwc (by rw [Oper.semAt_eq _ _ _ hnd]; exact hu1), finish_atR' _ _ _ _ _ _ _ ho hd]
        | true =>
          rw [hn] at hp
          simp only [if_true] at hp
          obtain ⟨ob, hv, hm, hob, hlo', hhi'⟩ := hp
          obtain ⟨q, u, N, hu1, hu2⟩ := afresh_run (P := P) hv (heval []) w
          have hx1 : Ext μ (upd μ (β i) (w.heap.size, 0, N)) I I := .upd hm
          obtain ⟨hu3, hu4⟩ := hu2 _ hx1 (upd_self _ _ _)
          refine next (upd μ (β i) (w.heap.size, 0, N)) (w.pushBlock q) u hx1 (fun b hb e => ⟨by rw [upd_ne _ _ (by omega)]; exact e, rfl⟩) (W.push hob hm hu3) hu4 (fun k hk hgk o' ho' hnk hwk => ?_) fun b ds k cs => ?_
          · obtain ⟨o2, d2, p1, p2, p3, p4, p5⟩ := hpend k (List.mem_cons_of_mem _ hk) hgk
            rw [ho'] at p1; cases p1
            unfold Pend at p5
            rw [hwk] at p5
            simp only [hnk, if_true] at p5
            obtain ⟨_, _, z, _⟩ := p5
            rw [upd_ne _ _ ?_]
            · exact z
            · intro hb
              exact hnoti k hk (hinj k (List.mem_cons_of_mem _ hk) i (List.mem_cons_self) hgk hgi o' o ho' ho hnk hn hwk hw hb)
          · rw [stepR_value (a := ⟨tmps, ds⟩) ho hwc (by rw [Oper.semAt_eq _ _ _ hnd]; exact hu1), finish_atR' _ _ _ _ _ _ _ ho hd]

end
end Go.Abs
namespace Go.Abs
open Go.RowKit (Below)
set_option linter.unusedSimpArgs false
set_option linter.unusedVariables false
set_option linter.unusedSectionVars false

/-- What is taken of the program: closed facts. -/
structure ProgOk (P : Program) : Prop where
  mixed : P.follows .mixedOrders = true
  plain : ∀ (f : FuncId) (fn : Func), P.funcs[f]? = some fn → (fn.name == "runtime.NumGoroutine") = false

section
variable {P : Program} {μ μ' : Mu} {I : Imm} [GlobI I] {h h' : Heap} {w0 w w' : World}

/-- What an operation of the abstract machine comes to, and what the model's comes to. -/
def HR (P : Program) (μ : Mu) (I : Imm) (n : ANext) (args : List AV) (r : Result Next) (w' : World) : Prop :=
  match n with
  | .value v => ∃ u, (r = .ok (.value u) w' ∨ (r = .ok .skip w' ∧ u = undef)) ∧ VRel μ I v u
  | .enter f args => ∃ args', r = .ok (.enter f args') w' ∧ VRels μ I args args'.toList
  | .round l => ∃ B o N args', μ l = some (B, o, N) ∧ r = (Instr.yield B args').run P w' ∧ VRels μ I args args'.toList
  | .defer d => ∃ d', r = .ok (.defer d') w' ∧ DRel μ I d d'
  | .recover => r = .ok .recover w'
  | .panic v => ∃ u, r = .halt (.panic u) w' ∧ VRel μ I v u

theorem callFunc_run (K : ProgOk P) {f : FuncId} {fn : Func} {c : Code} (h1 : P.funcs[f]? = some fn) (h2 : fn.body = some c) (args : Array Value) (w : World) : (callFunc f args).run P w = .ok (.enter f args) w := by
  unfold callFunc
  have := K.plain f fn h1
  simp only [Sem.run_bind, run_program, Result.andThen_ok, h1, this, h2, Bool.false_eq_true, if_false, Option.isNone_some, Sem.run_pure]

theorem acall_run (K : ProgOk P) {f : AV} {args : List AV} {n : ANext} (e : acall P f args = some n) {fv : Value} {as_ : Array Value} (r : VRel μ I f fv) (q : VRels μ I args as_.toList) (w : World) :
    HR P μ I n args ((do let d ← Deferred.ofValue fv as_; invoke d.target d.args : Sem Next).run P w) w := by
  unfold acall at e
  split at e
  · rename_i g first captured
    cases hf : P.funcs[g]? with
    | none => rw [hf] at e; cases e
    | some fn =>
      rw [hf] at e
      simp only at e
      cases hb : fn.body with
      | none => rw [hb] at e; cases e
      | some c =>
        rw [hb] at e
        simp at e
        subst e
        cases r with
        | func r1 r2 =>
          rename_i u v
          refine ⟨u ++ as_ ++ v, ?_, ?_⟩
          · simp [Deferred.ofValue, invoke, callFunc_run K hf hb]
          · simpa using (r1.append q).append r2
  · rename_i l
    simp at e
    subst e
    cases r with
    | yieldf hm =>
      rename_i B o N
      refine ⟨B, o, N, as_, hm, ?_, q⟩
      simp [Deferred.ofValue, invoke]
  · cases e

theorem aheavy_run (K : ProgOk P) (W : WRel μ I w0 h w) {tm : Tr AV} {ρ : Operand → Value} {o : Oper} {n : ANext} (e : aheavy P h tm o = some (n, h'))
    (hop : ∀ x ∈ o.op.operands.toList, VRel μ I (evalOp tm x) (ρ x)) :
    ∃ μ' w', Goes P μ μ' I w0 h h' w' ∧ HR P μ' I n (match o.op with | .call c => c.args.toList.map (evalOp tm) | _ => []) ((execOp ρ o).run P w) w' := by
  obtain ⟨dst, op, type, pos, after, guard⟩ := o
  unfold aheavy at e
  unfold execOp
  cases op <;> simp only at e hop ⊢ <;> try (cases e; done)
  case store t a x =>
    cases hs : astore P h t (evalOp tm a) (evalOp tm x) with
    | none => rw [hs] at e; simp at e
    | some h1 =>
      rw [hs] at e
      simp at e
      obtain ⟨rfl, rfl⟩ := e
      obtain ⟨w', h1, h2, h3, h4⟩ := astore_run (P := P) W hs (hop a (by simp [Op.operands])) (hop x (by simp [Op.operands]))
      exact ⟨μ, w', ⟨.refl _ _, h2, by omega, fun b hb e => ⟨e, h4 b e⟩⟩, undef, .inr ⟨by simp [h1], rfl⟩, .bad _⟩
  case mapUpdate t m k x =>
    cases hs : amapUpdate P h t (evalOp tm m) (evalOp tm k) (evalOp tm x) with
    | none => rw [hs] at e; simp at e
    | some h1 =>
      rw [hs] at e
      simp at e
      obtain ⟨rfl, rfl⟩ := e
      obtain ⟨w', h1, h2⟩ := amapUpdate_run (P := P) W hs (hop m (by simp [Op.operands])) (hop k (by simp [Op.operands])) (hop x (by simp [Op.operands]))
      exact ⟨μ, w', h2, undef, .inr ⟨by simp [h1], rfl⟩, .bad _⟩
  case insert t m k x =>
    cases hs : amapUpdate P h t (evalOp tm m) (evalOp tm k) (evalOp tm x) with
    | none => rw [hs] at e; simp at e
    | some h1 =>
      rw [hs] at e
      simp at e
      obtain ⟨rfl, rfl⟩ := e
      obtain ⟨w', h1, h2⟩ := amapUpdate_run (P := P) W hs (hop m (by simp [Op.operands])) (hop k (by simp [Op.operands])) (hop x (by simp [Op.operands]))
      exact ⟨μ, w', h2, undef, .inr ⟨by simp [h1], rfl⟩, .bad _⟩
  case call c =>
    obtain ⟨callee, args, argTypes⟩ := c
    have hargs : VRels μ I (args.toList.map (evalOp tm)) (args.map ρ).toList := by
      have := VRels.map (μ := μ) (I := I) (f := evalOp tm) (g := ρ) (l := args.toList) (fun y hy => hop y (by simp [Op.operands, Call.operands]; right; simpa using hy))
      simpa using this
    cases callee <;> simp only at e <;> try (cases e; done)
    case value f =>
      have hf := hop f (by simp [Op.operands, Call.operands])
      cases ha : acall P (evalOp tm f) (args.toList.map (evalOp tm)) with
      | none => rw [ha] at e; simp at e
      | some n' =>
        rw [ha] at e
        simp at e
        obtain ⟨rfl, rfl⟩ := e
        refine ⟨μ, w, .refl W, ?_⟩
        have := acall_run K ha hf hargs w
        simpa [resolve] using this
    case builtin b =>
      split at e
      · -- append
        rename_i s x st xt hx ht
        rw [hx] at hargs
        have hm : args.map ρ = #[ρ s, ρ x] := by apply Array.ext'; simp [hx]
        have hty : argTypes = #[st, xt] := by apply Array.ext'; simp [ht]
        rw [hm] at hargs
        simp only [List.map_cons, List.map_nil] at hargs
        cases hargs with
        | cons q1 q2 =>
        cases q2 with
        | cons q2 _ =>
        cases ha : aappend P h st xt (evalOp tm s) (evalOp tm x) with
        | none => rw [ha] at e; simp at e
        | some vh =>
          obtain ⟨v, h1⟩ := vh
          rw [ha] at e
          simp at e
          obtain ⟨rfl, rfl⟩ := e
          obtain ⟨μ', u, w', g1, g2, g3⟩ := aappend_run (P := P) (ty := type) W ha q1 q2
          refine ⟨μ', w', g2, u, .inl ?_, g3⟩
          simp [resolve, invoke, builtin, hm, hty, g1]
      · -- copy
        rename_i d s t ts hx ht
        rw [hx] at hargs
        have hm : args.map ρ = #[ρ d, ρ s] := by apply Array.ext'; simp [hx]
        have hty : argTypes[0]? = some t := by rw [← Array.getElem?_toList, ht]; rfl
        rw [hm] at hargs
        simp only [List.map_cons, List.map_nil] at hargs
        cases hargs with
        | cons q1 q2 =>
        cases q2 with
        | cons q2 _ =>
        cases ha : acopy P h t (evalOp tm d) (evalOp tm s) with
        | none => rw [ha] at e; simp at e
        | some vh =>
          obtain ⟨v, h1⟩ := vh
          rw [ha] at e
          simp at e
          obtain ⟨rfl, rfl⟩ := e
          obtain ⟨u, w', g1, g2, g3⟩ := acopy_run (P := P) (ty := type) W hty ha q1 q2
          refine ⟨μ, w', g2, u, .inl ?_, g3⟩
          simp [resolve, invoke, builtin, hm, g1]
      · -- recover
        rename_i hx
        simp at e
        obtain ⟨rfl, rfl⟩ := e
        exact ⟨μ, w, .refl W, by simp [HR, resolve, invoke, builtin]⟩
      · cases e
  case defer c =>
    obtain ⟨callee, args, argTypes⟩ := c
    cases callee <;> simp only at e <;> try (cases e; done)
    rename_i f
    have hf := hop f (by simp [Op.operands, Call.operands])
    have hargs : VRels μ I (args.toList.map (evalOp tm)) (args.map ρ).toList := by
      have := VRels.map (μ := μ) (I := I) (f := evalOp tm) (g := ρ) (l := args.toList) (fun y hy => hop y (by simp [Op.operands, Call.operands]; right; simpa using hy))
      simpa using this
    split at e
    · rename_i g first captured hq
      simp at e
      obtain ⟨rfl, rfl⟩ := e
      rw [hq] at hf
      generalize hfv : ρ f = fv at hf
      cases hf with
      | func r1 r2 =>
        rename_i u v
        refine ⟨μ, w, .refl W, { target := .fn (.func g) v, args := u ++ args.map ρ }, ?_, .func ?_⟩
        · simp [resolve, hfv, Deferred.ofValue]
        · simpa using (r1.append hargs).append r2
    · cases e
  case panic x =>
    have hx := hop x (by simp [Op.operands])
    split at e
    · rename_i t v hq
      simp at e
      obtain ⟨rfl, rfl⟩ := e
      rw [hq] at hx
      generalize hxv : ρ x = xv at hx
      cases hx with
      | iface r =>
        exact ⟨μ, w, .refl W, _, by simp [Instr.panic], .iface r⟩
    · cases e

/-! ### New frames -/
theorem setAll_rel : ∀ {l : List AV} {us : List Value} {tm : Tr AV} {i : Nat} {tmps : Array Value}, TRel μ I tm tmps → VRels μ I l us → (∀ j v, us[j]? = some v → tmps.getD (i + j) undef = v) → TRel μ I (enter.setAll tm i l) tmps
  | [], _, tm, i, tmps, r, .nil, _ => r
  | a :: l, _, tm, i, tmps, r, .cons (u := u) q qs, h => by
    simp only [enter.setAll]
    refine setAll_rel ?_ qs (fun j v e => ?_)
    · intro t x e
      rw [Tr.get_set] at e
      split at e
      · rename_i ht; subst ht; cases e
        have := h 0 u rfl
        simp at this
        rw [Array.getD_eq_getD_getElem?]
        rw [this]; exact q
      · exact r t x e
    · have := h (j + 1) v (by simpa using e)
      rw [← this]
      congr 1
      omega

theorem enter_rel {f : FuncId} {args : List AV} {as_ : Array Value} {d : Bool} {fr : AFrame} (e : enter P f args d = some fr) (q : VRels μ I args as_.toList) (act : Bool) (lo hi : Nat) (h : Heap) :
    FRel P μ I h act lo hi fr (Frame.enter P f as_ (if d = true then .deferred else .normal)) := by
  unfold enter at e
  cases hf : P.funcs[f]? with
  | none => rw [hf] at e; cases e
  | some fn =>
    rw [hf] at e
    simp only at e
    cases hb : fn.body with
    | none => rw [hb] at e; cases e
    | some c =>
      rw [hb] at e
      simp only at e
      obtain ⟨h1, e⟩ := cond_some e
      have h1 := Nat.le_of_ble_eq_true h1
      simp at e
      subst e
      have hl := q.length
      simp only [Array.length_toList] at hl
      refine ⟨rfl, ⟨fn, hf⟩, rfl, .none, .nil, ?_, .run rfl (.plain ?_ ?_)⟩
      · simp [Frame.enter, hf]; omega
      · simp only [Frame.enter, hf, Option.bind_some, hb, Option.getD_some]
        exact .cons (.code c) .nil
      · refine setAll_rel (fun t v e => by simp [Tr.get_nil] at e) q (fun j v e => ?_)
        have hj := (List.getElem?_eq_some_iff.1 e).1
        simp only [Array.length_toList] at hj
        have e' : as_[j]? = some v := by simpa using e
        simp only [Frame.enter, Nat.zero_add]
        rw [Array.getD_eq_getD_getElem?, Array.getElem?_append_left hj, e']
        rfl

theorem sets_rel {r : ALoop} : ∀ {ps : List Tmp} {l : List AV} {us : List Value} {tm tm' : Tr AV} {tmps : Array Value}, roundFrame.sets r tm ps l = some tm' → ps.length = l.length → TRel μ I tm tmps → tmps.size = r.nt → VRels μ I l us →
    TRel μ I tm' ((ps.zip us).foldl (fun tmps (t, a) => tmps.setIfInBounds t a) tmps) ∧ ((ps.zip us).foldl (fun tmps (t, a) => tmps.setIfInBounds t a) tmps).size = r.nt
  | [], l, us, tm, tm', tmps, e, hl, ht, hs, q => by simp [roundFrame.sets] at e; subst e; exact ⟨ht, hs⟩
  | p :: ps, [], us, tm, tm', tmps, e, hl, ht, hs, q => by simp at hl
  | p :: ps, a :: l, _, tm, tm', tmps, e, hl, ht, hs, .cons (u := u) q qs => by
    simp only [roundFrame.sets] at e
    obtain ⟨h1, e⟩ := cond_some e
    have h1 := blt_lt h1
    simp only [List.zip_cons_cons, List.foldl_cons]
    exact sets_rel e (by simpa using hl) (ht.set (by rw [hs]; exact h1) q) (by simpa using hs) qs

theorem round_rel {l B o N : Nat} {r : ALoop} {c : Loop} {args : List AV} {as_ : Array Value} {fr : AFrame} (hm : μ l = some (B, o, N)) (hr : LRel μ I r c) (e : roundFrame l r args = some fr) (q : VRels μ I args as_.toList) (hfn : ∃ fn, P.funcs[r.fn]? = some fn)
    (act : Bool) (lo hi : Nat) (h : Heap) : as_.size = c.params.size ∧
    FRel P μ I h act lo hi fr (Frame.round B c.fn ((c.params.zip as_).foldl (fun tmps (t, a) => tmps.setIfInBounds t a) c.tmps) c.assign c.body .normal) := by
  unfold roundFrame at e
  obtain ⟨h1, e⟩ := cond_some e
  have h1 := beq_tt h1
  have hl := q.length
  simp only [Array.length_toList] at hl
  cases hs : roundFrame.sets r r.tm r.params.toList args with
  | none => rw [hs] at e; cases e
  | some tm =>
    rw [hs] at e
    simp at e
    subst e
    refine ⟨by rw [hr.params]; omega, ?_⟩
    obtain ⟨k1, k2⟩ := sets_rel (r := r) hs (by simpa using h1.symm) hr.tm hr.nt q
    have key : (c.params.zip as_).foldl (fun tmps (t, a) => tmps.setIfInBounds t a) c.tmps = (r.params.toList.zip as_.toList).foldl (fun tmps (t, a) => tmps.setIfInBounds t a) c.tmps := by
      rw [hr.params, ← Array.foldl_toList, Array.toList_zip]
    rw [key]
    refine ⟨hr.fn, hfn, rfl, .some hm, .nil, k2, .run rfl (.plain ?_ k1)⟩
    simp only [Frame.round]
    rw [hr.assign, hr.body]
    exact .cons (.code _) (.cons .beginRound (.cons (.code _) .nil))

end
end Go.Abs
namespace Go.Abs
open Go.RowKit (Below)
set_option linter.unusedSimpArgs false
set_option linter.unusedVariables false
set_option linter.unusedSectionVars false
section
variable {P : Program} {μ μ' : Mu} {I : Imm} [GlobI I] {h h' : Heap} {w0 w w' : World}

theorem todo_no_call {act : Bool} {lo hi : Nat} {todo : List AItem} {tm : Tr AV} {todoc : List Item} {tmps : Array Value} (r : TodoRel P μ I h act lo hi todo tm todoc tmps) : ∀ d b s v k, todoc ≠ .call d b s v :: k := by
  intro d b s v k e
  subst e
  cases r with
  | plain a b => cases a with | cons a b => cases a

theorem cut_rel {todo : List AItem} {tm : Tr AV} {tmps : Array Value} (ht : TRel μ I tm tmps) : TRel μ I (cutTm todo tm) tmps := by
  unfold cutTm
  split
  · intro t v e; simp [Tr.get_nil] at e
  · exact ht
theorem cut_todo {act : Bool} {lo hi : Nat} {todo : List AItem} {tm : Tr AV} {todoc : List Item} {tmps : Array Value} (r : TodoRel P μ I h act lo hi todo tm todoc tmps) : TRel μ I (cutTm todo tm) tmps := by
  cases r with
  | plain a b => exact cut_rel b
  | drawn a b d => intro t v e; simp [cutTm, Tr.get_nil] at e

/-- A panic comes to a frame. -/
theorem raise_sim {lo hi : Nat} {act act' : Bool} {lo' hi' : Nat} {f : AFrame} {c : Frame} {a : List APanic} {b : List PanicEntry} (r : FRel P μ I h act lo hi f c) (q : ChRel μ I a b) : FRel P μ I h act' lo' hi' (araise f a) (c.raise b) := by
  obtain ⟨r1, r2, r3, r4, r5, r6, r7⟩ := r
  obtain ⟨fn, nt, tm, todo, defers, mode, deferred, roundOf⟩ := f
  simp only at r1 r2 r3 r4 r5 r6 r7
  have hcut : ∀ {tm}, TRel μ I tm c.tmps → TRel μ I (cutTm todo tm) c.tmps := fun ht => cut_rel ht
  have main : ∀ (b' : List PanicEntry) (a' : List APanic), (c.raise b).mode = .panicking b' → ChRel μ I a' b' → (c.raise b).fn = c.fn → (c.raise b).kind = c.kind → (c.raise b).roundOf = c.roundOf → (c.raise b).defers = c.defers → (c.raise b).tmps = c.tmps →
      TRel μ I (cutTm todo tm) c.tmps → FRel P μ I h act' lo' hi' { fn, nt, tm := cutTm todo tm, todo, defers, mode := .panicking a', deferred, roundOf } (c.raise b) := by
    intro b' a' e1 e2 e3 e4 e5 e6 e7 e8
    exact ⟨e3.trans r1, r2, e4.trans r3, by rw [e5]; exact r4, by rw [e6]; exact r5, by rw [e7]; exact r6, .pan e1 e2 (by rw [e7]; exact e8)⟩
  cases r7 with
  | run hm ht =>
    have e : ∀ {x}, c.raise b = x → x = { c with mode := .panicking b } := fun h => by rw [← h]; simp [Frame.raise, hm]
    refine main b a (by simp [Frame.raise, hm]) q ?_ ?_ ?_ ?_ ?_ (cut_todo ht) <;> simp [Frame.raise, hm]
  | ret hm ht =>
    refine main b a (by simp [Frame.raise, hm]) q ?_ ?_ ?_ ?_ ?_ (hcut ht) <;> simp [Frame.raise, hm]
  | pan hm hc ht =>
    rename_i a' b'
    refine main (b ++ b') (a ++ a') (by simp [Frame.raise, hm]) (q.append hc) ?_ ?_ ?_ ?_ ?_ (hcut ht) <;> simp [Frame.raise, hm]

theorem RoundRel.none_inv {x : Option Nat} (r : RoundRel μ Option.none x) : x = Option.none := by cases r; rfl

theorem apply_enter {c : Frame} {cs : List Frame} {s : Sem Next} {g : FuncId} {as' : Array Value} (hno : ∀ d b s v k, c.todo ≠ .call d b s v :: k) (h1 : s.run P w = .ok (.enter g as') w') :
    (stepG.apply P true c cs none s w).bare = .go { frame := Frame.enter P g as' .normal, callers := c :: cs, status := .running, dying := none } w' := by
  obtain ⟨fn, tmps, todo, defers, mode, kind, roundOf⟩ := c
  cases todo with
  | nil => simp [stepG.apply, h1]
  | cons it k => cases it <;> first | exact absurd rfl (hno _ _ _ _ _) | simp [stepG.apply, h1]

theorem apply_sim (K : ProgOk P) {f : AFrame} {c : Frame} {callers : List AFrame} {cs tl : List Frame} {n : ANext} {args : List AV} {m' : AMach} {lo hi : Nat} {s : Sem Next} (hap : apply P f callers n h' args = some m')
    (hm : f.mode = .run) (hF : FRel P μ' I h' false lo hi f c) (hlo : lo ≤ hi) (hhi : hi ≤ h'.next) (hS : Stack P μ' I h' lo callers cs) (hW : WRel μ' I w0 h' w') (hR : HR P μ' I n args (s.run P w) w') :
    ∃ c' cs' w'', (stepG.apply P true c (cs ++ tl) none s w).bare = .go { frame := c', callers := cs' ++ tl, status := .running, dying := none } w'' ∧ MRel P μ' I w0 m' c' cs' w'' := by
  have hno : ∀ d b s v k, c.todo ≠ .call d b s v :: k := by
    have hst := hF.st
    rw [hm] at hst
    cases hst with
    | run a b => exact todo_no_call b
  have hcm : c.mode = .run := by
    have hst := hF.st
    rw [hm] at hst
    cases hst with | run a b => exact a
  -- a value
  have value : ∀ {f : AFrame} {c : Frame} {v : AV} {u : Value} {w'' : World} {callers : List AFrame} {cs : List Frame}, f.mode = .run → FRel P μ' I h' false lo hi f c → Stack P μ' I h' lo callers cs → WRel μ' I w0 h' w'' → VRel μ' I v u →
      ∀ {f'}, afinish P h' f v = some f' → MRel P μ' I w0 { fr := f', callers, h := h' } (c.finish u) cs w'' := by
    intro f c v u w'' callers cs hm hF hS hW hv f' e
    exact ⟨⟨lo, Nat.le_trans hlo hhi, (finish_sim e hm hF hv).widen (Nat.le_refl _) hhi, hS⟩, hW⟩
  cases n with
  | value v =>
    obtain ⟨u, h1, h2⟩ := hR
    simp only [apply] at hap
    cases he : afinish P h' f v with
    | none => rw [he] at hap; cases hap
    | some f' =>
      rw [he] at hap
      simp at hap
      subst hap
      refine ⟨c.finish u, cs, w', ?_, value hm hF hS hW h2 he⟩
      rcases h1 with h1 | ⟨h1, rfl⟩ <;> simp [stepG.apply, h1]
  | enter g as_ =>
    obtain ⟨as', h1, h2⟩ := hR
    simp only [apply] at hap
    cases he : enter P g as_ false with
    | none => rw [he] at hap; cases hap
    | some f' =>
      rw [he] at hap
      simp at hap
      subst hap
      have hE := enter_rel he h2 true h'.next h'.next h'
      simp only [Bool.false_eq_true, if_false] at hE
      refine ⟨_, c :: cs, w', ?_, ⟨⟨h'.next, Nat.le_refl _, hE, .cons (hF.widen (Nat.le_refl _) hhi) (by omega) hS⟩, hW⟩⟩
      exact apply_enter hno h1
  | round l =>
    obtain ⟨B, o, N, as', hmu, h1, h2⟩ := hR
    simp only [apply] at hap
    cases hg : getLoop h' l with
    | none => rw [hg] at hap; cases hap
    | some r =>
      rw [hg] at hap
      simp only at hap
      split at hap
      case h_2 => cases hap
      case h_1 fn hfn =>
      cases he : roundFrame l r args with
      | none => rw [he] at hap; cases hap
      | some f' =>
        rw [he] at hap
        simp at hap
        subst hap
        have hgl : h'.get l = some (.loop r) := by
          unfold getLoop at hg
          split at hg
          · rename_i q; cases hg; exact q
          · cases hg
        obtain ⟨obj, ho, hor⟩ := hW.objs _ _ _ _ _ hgl hmu
        cases hor with
        | loop hl =>
          rename_i L
          obtain ⟨k1, k2⟩ := round_rel (P := P) hmu hl he h2 ⟨fn, hfn⟩ true h'.next h'.next h'
          refine ⟨_, c :: cs, w', ?_, ⟨⟨h'.next, Nat.le_refl _, k2, .cons (hF.widen (Nat.le_refl _) hhi) (by omega) hS⟩, hW⟩⟩
          rw [run_yield ho k1] at h1
          simp [stepG.apply, h1]
  | defer d =>
    obtain ⟨d', h1, h2⟩ := hR
    simp only [apply] at hap
    split at hap
    case h_2 => cases hap
    case h_1 hro =>
    cases he : afinish P h' { f with defers := d :: f.defers } .bad with
    | none => rw [he] at hap; cases hap
    | some f' =>
      rw [he] at hap
      simp at hap
      subst hap
      have hF' : FRel P μ' I h' false lo hi { f with defers := d :: f.defers } { c with defers := d' :: c.defers } := by
        refine ⟨hF.fn, hF.has, hF.kind, hF.round, .cons h2 hF.defers, hF.size, ?_⟩
        have hst := hF.st
        simp only
        rw [hm] at hst ⊢
        cases hst with
        | run a b => exact .run a b
      refine ⟨_, cs, w', ?_, value (c := { c with defers := d' :: c.defers }) (u := undef) (by exact hm) hF' hS hW (.bad _) he⟩
      simp [stepG.apply, h1]
  | recover =>
    have h1 : s.run P w = .ok .recover w' := hR
    simp only [apply] at hap
    split at hap
    case h_2 => cases hap
    case h_1 hro =>
    have hcr : c.roundOf = none := by
      have := hF.round
      rw [hro] at this
      exact this.none_inv
    split at hap
    case h_2 => cases hap
    case h_1 c1 rest hd =>
    have hck : c.kind = .deferred := by rw [hF.kind, hd]; rfl
    cases hS with
    | cons hF1 hlo1 hS1 =>
    rename_i lo1 cc cs1
    split at hap
    · rename_i v older hmode
      cases he : afinish P h' f v with
      | none => rw [he] at hap; cases hap
      | some f' =>
        rw [he] at hap
        simp at hap
        subst hap
        have hst := hF1.st
        rw [hmode] at hst
        cases hst with
        | pan z1 z2 z3 =>
          cases z2 with
          | cons hv z2 =>
            rename_i u oc
            refine ⟨c.finish u, { cc with mode := .panicking ({ v := u, recovered := true } :: oc) } :: cs1, w', ?_, ?_⟩
            · simp [stepG.apply, h1, hcr, tryRecover, hck, z1]
            · refine ⟨⟨lo, Nat.le_trans hlo hhi, (finish_sim he hm hF hv).widen (Nat.le_refl _) hhi, .cons ⟨hF1.fn, hF1.has, hF1.kind, hF1.round, hF1.defers, hF1.size, ?_⟩ hlo1 hS1⟩, hW⟩
              exact .pan rfl (.cons hv z2) z3
    · rename_i hno
      cases he : afinish P h' f .nili with
      | none => rw [he] at hap; cases hap
      | some f' =>
        rw [he] at hap
        simp at hap
        subst hap
        refine ⟨c.finish .nilIface, cc :: cs1, w', ?_, value hm hF (.cons hF1 hlo1 hS1) hW .nili he⟩
        have : tryRecover c (cc :: cs1 ++ tl) = none := by
          simp only [List.cons_append, tryRecover, hck]
          have hst := hF1.st
          cases hmode : c1.mode with
          | run => rw [hmode] at hst; cases hst with | run z1 z2 => rw [z1]
          | returning => rw [hmode] at hst; cases hst with | ret z1 z2 => rw [z1]
          | panicking ch =>
            rw [hmode] at hst
            cases hst with
            | pan z1 z2 z3 =>
              rw [z1]
              cases z2 with
              | nil => rfl
              | cons hv z2 =>
                rename_i v u rr a b
                cases rr with
                | true => rfl
                | false => exact absurd hmode (hno _ _)
        rw [List.cons_append] at this ⊢
        simp [stepG.apply, h1, hcr, this]
  | panic v =>
    obtain ⟨u, h1, h2⟩ := hR
    simp only [apply] at hap
    split at hap
    case h_2 => cases hap
    case h_1 t x =>
    simp at hap
    subst hap
    refine ⟨c.raise [{ v := u, recovered := false }], cs, w', by simp [stepG.apply, h1], ⟨⟨lo, Nat.le_trans hlo hhi, raise_sim hF (.cons h2 .nil), hS⟩, hW⟩⟩

end
end Go.Abs
namespace Go.Abs
open Go.RowKit (Below)
set_option linter.unusedSimpArgs false
set_option linter.unusedVariables false
set_option linter.unusedSectionVars false
section
variable {P : Program} {μ μ' : Mu} {I : Imm} [GlobI I] {h h' : Heap} {w0 w w' : World}

/-- What is shown of a step. -/
def Sim (P : Program) (I : Imm) (w0 : World) (m' : AMach) (c : Frame) (cs tl : List Frame) (w : World) : Prop :=
  ∃ μ' c' cs' w', Steps P (lone c (cs ++ tl) w) (lone c' (cs' ++ tl) w') ∧ MRel P μ' I w0 m' c' cs' w'

theorem Sim.head {m' : AMach} {c c1 : Frame} {cs cs1 tl : List Frame} {w w1 : World} (s : Steps P (lone c (cs ++ tl) w) (lone c1 (cs1 ++ tl) w1)) (h : Sim P I w0 m' c1 cs1 tl w1) : Sim P I w0 m' c cs tl w := by
  obtain ⟨μ', c', cs', w', h1, h2⟩ := h
  exact ⟨μ', c', cs', w', s.trans h1, h2⟩

theorem atR_eq {c : Frame} (hm : c.mode = .run) {todo : List Item} (ht : c.todo = todo) : c.atR ⟨c.tmps, c.defers⟩ todo = c := by
  subst ht
  obtain ⟨fn, tmps, todo, defers, mode, kind, roundOf⟩ := c
  simp only at hm
  subst hm
  rfl

theorem FRel.mode_run {act : Bool} {lo hi : Nat} {f : AFrame} {c : Frame} (r : FRel P μ I h act lo hi f c) (hm : f.mode = .run) : c.mode = .run ∧ TodoRel P μ I h act lo hi f.todo f.tm c.todo c.tmps := by
  have := r.st
  rw [hm] at this
  cases this with | run a b => exact ⟨a, b⟩

theorem goes_keep (g : Goes P μ μ' I w0 h h' w') {n : Nat} (hn : n ≤ h.next) : KeepBelow n μ μ' h h' := fun b hb e => g.keep b (Nat.lt_of_lt_of_le hb hn) e

theorem aheavy_defer {tm : Tr AV} {o : Oper} {c : Call} {n : ANext} (hq : o.op = .defer c) (e : aheavy P h tm o = some (n, h')) : ∃ d, n = .defer d := by
  obtain ⟨dst, op, type, pos, after, guard⟩ := o
  simp only at hq
  subst hq
  obtain ⟨callee, args, argTypes⟩ := c
  cases callee <;> simp only [aheavy] at e <;> first | (cases e; done) | skip
  split at e
  · simp at e
    exact ⟨_, e.1.symm⟩
  · cases e

/-- An operation at which the frame stands. -/
theorem aoper_sim (K : ProgOk P) {f : AFrame} {c : Frame} {callers : List AFrame} {cs tl : List Frame} {m' : AMach} {lo hi : Nat} {ops : Array Oper} {o : Oper} {i : Nat} {rest : List Nat} {kc : List Item}
    (e : aoper P f callers h ops o = some m') (hm : f.mode = .run) (hF : FRel P μ I h false lo hi f c) (hlo : lo ≤ hi) (hhi : hi ≤ h.next) (hS : Stack P μ I h lo callers cs) (hW : WRel μ I w0 h w)
    (hct : c.todo = .inRegion ops (i :: rest) :: kc) (ho : ops[i]? = some o)
    (hev : ∀ x ∈ o.op.operands.toList, VRel μ I (evalOp f.tm x) (Act.eval ⟨c.tmps, c.defers⟩ x)) (hgd : ∀ b, awanted ops f.tm o = some b → Region.wanted o (yielded ops c.tmps) = b) :
    Sim P I w0 m' c cs tl w := by
  obtain ⟨hcm, _⟩ := hF.mode_run hm
  have hc := atR_eq hcm hct
  unfold aoper at e
  -- a value, and heaps that have gone on
  have value : ∀ {μ' : Mu} {h' : Heap} {w' : World} {v : AV} {u : Value} {f' : AFrame}, Goes P μ μ' I w0 h h' w' → VRel μ' I v u → afinish P h' f v = some f' → step P (lone c (cs ++ tl) w) = .next (lone (c.finish u) (cs ++ tl) w') →
      Sim P I w0 { fr := f', callers, h := h' } c cs tl w := by
    intro μ' h' w' v u f' g hv he hs
    have hF' := hF.mono g.ext (goes_keep g hhi)
    refine ⟨μ', c.finish u, cs, w', Steps.one hs, ⟨⟨lo, ?_, (finish_sim he hm hF' hv).widen (Nat.le_refl _) (Nat.le_trans hhi g.next), hS.mono g.ext (goes_keep g (Nat.le_trans hlo hhi))⟩, g.rel⟩⟩
    exact Nat.le_trans hlo (Nat.le_trans hhi g.next)
  split at e
  · rename_i hw
    have hwc := hgd _ hw
    split at e
    · -- light
      rename_i v hv
      split at e
      · rename_i f' he
        simp at e
        subst e
        obtain ⟨u, h1, h2⟩ := alight_run (P := P) hW hv hev
        have hnd : ∀ c', o.op ≠ .defer c' := by
          intro c' hq; unfold alight at hv; rw [hq] at hv; cases hv
        refine value (.refl hW) h2 he ?_
        have := stepR_value (P := P) (b := c) (a := ⟨c.tmps, c.defers⟩) (k := kc) (cs := cs ++ tl) (w := w) (rest := rest) ho hwc (by rw [Oper.semAt_eq _ _ _ hnd]; exact h1)
        rw [hc] at this
        exact this
      · cases e
    · rename_i hnl
      split at e
      · -- a new block
        rename_i ob v hv
        split at e
        · rename_i f' he
          simp at e
          subst e
          obtain ⟨q, u, N, h1, h2⟩ := afresh_run (P := P) hv hev w
          have hx1 : Ext μ (upd μ h.next (w.heap.size, 0, N)) I I := .upd hW.next_none
          obtain ⟨h3, h4⟩ := h2 _ hx1 (upd_self _ _ _)
          have hnd : ∀ c', o.op ≠ .defer c' := by
            intro c' hq; unfold afresh at hv; rw [hq] at hv; cases hv
          refine value (goes_push hW h3) h4 he ?_
          have := stepR_value (P := P) (b := c) (a := ⟨c.tmps, c.defers⟩) (k := kc) (cs := cs ++ tl) (w := w) (rest := rest) ho hwc (by rw [Oper.semAt_eq _ _ _ hnd]; exact h1)
          rw [hc] at this
          exact this
        · cases e
      · split at e
        · -- heavy
          rename_i n h' hv
          obtain ⟨μ', w', g, hR⟩ := aheavy_run K hW hv hev
          have hsem : Oper.semAt c.roundOf (Act.eval ⟨c.tmps, c.defers⟩) o = execOp (Act.eval ⟨c.tmps, c.defers⟩) o := by
            by_cases hq : ∃ c', o.op = .defer c'
            · obtain ⟨c', hq⟩ := hq
              -- a deferred call within a round is not taken in
              have hro : f.roundOf = none := by
                obtain ⟨d, rfl⟩ := aheavy_defer hq hv
                simp only [apply] at e
                split at e
                · assumption
                · cases e
              have := hF.round
              rw [hro] at this
              rw [this.none_inv]
              rfl
            · exact Oper.semAt_eq _ _ _ fun c' hc' => hq ⟨c', hc'⟩
          obtain ⟨c', cs', w'', h1, h2⟩ := apply_sim (tl := tl) K e hm (hF.mono g.ext (goes_keep g hhi)) hlo (Nat.le_trans hhi g.next) (hS.mono g.ext (goes_keep g (Nat.le_trans hlo hhi))) g.rel hR
          refine ⟨μ', c', cs', w'', Steps.one (step_lone_go ?_), h2⟩
          have := stepGR_op (P := P) (b := c) (a := ⟨c.tmps, c.defers⟩) (k := kc) (cs := cs ++ tl) (w := w) (rest := rest) ho hwc
          rw [hc, hsem] at this
          rw [this]
          exact h1
        · cases e
  · rename_i hw
    have hwc := hgd _ hw
    split at e
    · rename_i f' he
      simp at e
      subst e
      refine value (u := undef) (.refl hW) (.tuple .nil) he ?_
      have := stepR_op_skip (P := P) (b := c) (a := ⟨c.tmps, c.defers⟩) (k := kc) (cs := cs ++ tl) (w := w) (ops := ops) (i := i) (rest := rest) (by rw [ho]; simpa using hwc)
      rw [← Frame.finish_atR, hc] at this
      exact this
    · cases e
  · cases e

theorem exit_rel {id : Nat} {k : List AItem} {kc : List Item} (r : ItRels μ k kc) : (∀ k', aexitTo id k = some k' → ∃ kc', exitTo id kc = some kc' ∧ ItRels μ k' kc') ∧ (aexitTo id k = none → exitTo id kc = none) := by
  induction r with
  | nil => exact ⟨fun k' e => by simp [aexitTo] at e, fun _ => rfl⟩
  | cons a b ih =>
    cases a
    case inBlock n =>
      simp only [aexitTo, exitTo]
      cases hb : Nat.beq n id with
      | true =>
        have := beq_tt hb
        subst this
        refine ⟨fun k' e => ?_, fun e => by simp at e⟩
        simp at e
        subst e
        exact ⟨_, by simp, b⟩
      | false =>
        have hn : (n == id) = false := by simpa using beq_ff hb
        rw [hn]
        simpa using ih
    all_goals (simp only [aexitTo, exitTo]; exact ih)

theorem aresults_run (W : WRel μ I w0 h w) {tm : Tr AV} {tmps : Array Value} (ht : TRel μ I tm tmps) : ∀ {l : List ResultVar} {vs : List AV}, aresults P h tm l = some vs →
    ∃ us : List Value, (l.mapM fun | .tmp t => pure (tmps.getD t undef) | .cell a t => do loadVar t (← asAddr (tmps.getD a undef)) : Sem (List Value)).run P w = .ok us w ∧ VRels μ I vs us
  | [], vs, e => by simp [aresults] at e; subst e; exact ⟨[], by simp, .nil⟩
  | .tmp t :: l, vs, e => by
    simp only [aresults] at e
    cases h1 : aresults P h tm l with
    | none => rw [h1] at e; simp at e
    | some vs' =>
      rw [h1] at e
      simp at e
      subst e
      obtain ⟨us, k1, k2⟩ := aresults_run W ht h1
      refine ⟨tmps.getD t undef :: us, ?_, .cons ?_ k2⟩
      · simp only [List.mapM_cons, Sem.run_bind, Sem.run_pure, Result.andThen_ok, k1]
      · have := evalOp_rel (μ := μ) (I := I) (tm := tm) (tmps := tmps) (x := .tmp t) (ds := []) (fun t' _ v hv => ht t' v hv)
        exact this
  | .cell a t :: l, vs, e => by
    simp only [aresults] at e
    split at e
    · rename_i v vs' h0 h1
      simp at e
      subst e
      obtain ⟨us, k1, k2⟩ := aresults_run W ht h1
      have hr : VRel μ I (tmGet tm a) (tmps.getD a undef) := evalOp_rel (μ := μ) (I := I) (tm := tm) (tmps := tmps) (x := .tmp a) (ds := []) (fun t' _ v hv => ht t' v hv)
      obtain ⟨u, k3, k4⟩ := aload_run (P := P) W h0 hr
      refine ⟨u :: us, ?_, .cons k4 k2⟩
      have : (asAddr (tmps.getD a undef) >>= fun x => loadVar t x).run P w = .ok u w := by
        unfold Instr.loadAt at k3
        generalize tmps.getD a undef = x at k3 hr ⊢
        unfold aload at h0
        split at h0
        · rename_i cs hrow
          obtain ⟨B, o, rfl, _⟩ := rowAt_rel W hrow hr
          simpa [asAddr, Instr.sureAddr] using k3
        · cases h0
      simp only [List.mapM_cons, Sem.run_bind, Sem.run_pure] at this ⊢
      rw [this]
      simp only [Result.andThen_ok, k1]
    · cases e

/-- The value that a frame hands back. -/
def packed : List AV → AV
  | [v] => v
  | vs => .tuple vs

theorem results_run (W : WRel μ I w0 h w) {tm : Tr AV} {tmps : Array Value} (ht : TRel μ I tm tmps) {fn : Func} {vs : List AV} (e : aresults P h tm fn.results.toList = some vs) :
    ∃ u, (results fn tmps).run P w = .ok u w ∧ VRel μ I (packed vs) u := by
  obtain ⟨us, k1, k2⟩ := aresults_run W ht e
  unfold results
  rw [Array.mapM_eq_mapM_toList]
  refine ⟨if h : us.toArray.size = 1 then us.toArray[0] else .tuple us.toArray, ?_, ?_⟩
  · simp only [Sem.run_bind, Sem.run_map]
    generalize hX : Sem.run P (List.mapM _ fn.results.toList) w = X
    have hX' : X = .ok us w := hX.symm.trans k1
    rw [hX']
    simp only [Result.andThen_ok, Sem.run_pure]
  · cases k2 with
    | nil => simp only [packed]; exact .tuple .nil
    | cons a b =>
      cases b with
      | nil => simp only [packed]; exact a
      | cons b c =>
        simp only [packed]
        rw [dif_neg (by simp)]
        exact .tuple (.cons a (.cons b c))

end
end Go.Abs
namespace Go.Abs
open Go.RowKit (Below)
set_option linter.unusedSimpArgs false
set_option linter.unusedVariables false
set_option linter.unusedSectionVars false
section
variable {P : Program} {μ μ' : Mu} {I : Imm} [GlobI I] {h h' : Heap} {w0 w w' : World}

theorem ChRel.drop {a : List APanic} {b : List PanicEntry} (r : ChRel μ I a b) : b.dropWhile (!·.goexit) = [] := by
  induction r with
  | nil => rfl
  | cons _ _ ih => simp only [List.dropWhile, Bool.not_false]; exact ih

/-- A frame is left with a value. -/
theorem areturn_sim {f : AFrame} {callers : List AFrame} {cs tl : List Frame} {v : AV} {m' : AMach} {lo : Nat} {u : Value} (e : areturn P f callers v h = some m') (hlo : lo ≤ h.next) (hS : Stack P μ I h lo callers cs) (hW : WRel μ I w0 h w) (hv : VRel μ I v u) :
    ∃ cc cs', cs = cc :: cs' ∧ (f.deferred = false → MRel P μ I w0 m' (cc.finish u) cs' w) ∧
      (f.deferred = true → MRel P μ I w0 m' (match cc.mode with
        | .panicking ({ recovered := true, .. } :: older) => (match older.dropWhile (!·.goexit) with
          | [] => { cc with mode := .returning }
          | rest => { cc with mode := .panicking rest })
        | _ => cc) cs' w) := by
  unfold areturn at e
  cases callers with
  | nil => cases e
  | cons c1 rest =>
    cases hS with
    | cons hF1 hlo1 hS1 =>
    rename_i lo1 cc cs'
    refine ⟨cc, cs', rfl, fun hd => ?_, fun hd => ?_⟩
    · rw [hd] at e
      simp only [cond_false] at e
      split at e
      case h_2 => cases e
      case h_1 hm =>
      split at e
      case h_2 => cases e
      case h_1 c1' he =>
      simp at e
      subst e
      exact ⟨⟨lo1, Nat.le_trans hlo1 hlo, (finish_sim he hm hF1 hv).widen (Nat.le_refl _) hlo, hS1⟩, hW⟩
    · rw [hd] at e
      simp only [cond_true] at e
      have hst := hF1.st
      -- the caller is not amid an operation: its mode is that of an ending frame, or it waits
      split at e
      · rename_i v0 ch hm
        simp at e
        subst e
        rw [hm] at hst
        cases hst with
        | pan z1 z2 z3 =>
          cases z2 with
          | cons q1 q2 =>
            rename_i oc
            rw [z1]
            have : oc.dropWhile (!·.goexit) = [] := q2.drop
            simp only [this]
            exact ⟨⟨lo1, Nat.le_trans hlo1 hlo, ⟨hF1.fn, hF1.has, hF1.kind, hF1.round, hF1.defers, hF1.size, .ret rfl z3⟩, hS1⟩, hW⟩
      · cases e
      · rename_i hno hnr
        simp at e
        subst e
        have hcc : (match cc.mode with
            | .panicking ({ recovered := true, .. } :: older) => (match older.dropWhile (!·.goexit) with
              | [] => { cc with mode := .returning }
              | rest => { cc with mode := .panicking rest })
            | _ => cc) = cc := by
          cases hm : c1.mode with
          | run => exact absurd hm hnr
          | returning => rw [hm] at hst; cases hst with | ret z1 z2 => rw [z1]
          | panicking ch =>
            rw [hm] at hst
            cases hst with
            | pan z1 z2 z3 =>
              rw [z1]
              cases z2 with
              | nil => rfl
              | cons q1 q2 =>
                rename_i v u rr a b
                cases rr with
                | false => rfl
                | true => exact absurd hm (hno _ _)
        rw [hcc]
        refine ⟨⟨lo1, Nat.le_trans hlo1 hlo, ⟨hF1.fn, hF1.has, hF1.kind, hF1.round, hF1.defers, hF1.size, ?_⟩, hS1⟩, hW⟩
        cases hm : c1.mode with
        | run => exact absurd hm hnr
        | returning => rw [hm] at hst; cases hst with | ret z1 z2 => exact .ret z1 z2
        | panicking ch => rw [hm] at hst; cases hst with | pan z1 z2 z3 => exact .pan z1 z2 z3


end
end Go.Abs
namespace Go.Abs
open Go.RowKit (Below)
set_option linter.unusedSimpArgs false
set_option linter.unusedVariables false
set_option linter.unusedSectionVars false

theorem stepR_scope' {P : Program} {b : Frame} {a : Act} {k : List Item} {cs : List Frame} {w : World} {c : Code} :
    step P (lone (b.atR a (.code (.scope c) :: k)) cs w) = .next (lone (b.atR a (.code c :: .inScope c :: k)) cs w) :=
  step_lone_go (by simp [stepG, stepG.exec, Frame.atR])
theorem stepR_inScope' {P : Program} {b : Frame} {a : Act} {k : List Item} {cs : List Frame} {w : World} {c : Code} : step P (lone (b.atR a (.inScope c :: k)) cs w) = .next (lone (b.atR a k) cs w) :=
  step_lone_go (by simp [stepG, stepG.exec, Frame.atR])
section
variable {P : Program} {μ μ' : Mu} {I : Imm} [GlobI I] {h h' : Heap} {w0 w w' : World}

theorem getLoop_spec {l : Nat} {r : ALoop} (e : getLoop h l = some r) : h.get l = some (.loop r) := by
  unfold getLoop at e
  split at e
  · rename_i q; cases e; exact q
  · cases e

/-- A loop's record is written. -/
theorem loop_update (W : WRel μ I w0 h w) {l B o N : Nat} {r r' : ALoop} {L L' : Loop} (hg : h.get l = some (.loop r)) (hm : μ l = some (B, o, N)) (hr : LRel μ I r' L') :
    Goes P μ μ I w0 h (h.set l (.loop r')) (w.putObj B (.loop L')) := by
  refine ⟨.refl _ _, W.update hg hm (.loop hr), Nat.le_refl _, fun b hb e => ⟨e, ?_⟩⟩
  rw [Heap.get_set, if_neg (fun q => by subst q; rw [hm] at e; cases e)]

theorem loop_at (W : WRel μ I w0 h w) {l B o N : Nat} {r : ALoop} (hg : h.get l = some (.loop r)) (hm : μ l = some (B, o, N)) : ∃ L, w.heap[B]? = some (.loop L) ∧ LRel μ I r L := by
  obtain ⟨obj, ho, hor⟩ := W.objs _ _ _ _ _ hg hm
  cases hor with
  | loop hl => exact ⟨_, ho, hl⟩

theorem RoundRel.some_inv {l : Nat} {x : Option Nat} (r : RoundRel μ (Option.some l) x) : ∃ B o N, x = Option.some B ∧ μ l = Option.some (B, o, N) := by
  cases r with | some e => exact ⟨_, _, _, rfl, e⟩

/-- Running frames, their list of things to do turned. -/
theorem turn {f : AFrame} {c : Frame} {callers : List AFrame} {cs : List Frame} {lo : Nat} (hlo : lo ≤ h.next) (hm : f.mode = .run) (hF : FRel P μ I h true lo h.next f c) (hS : Stack P μ I h lo callers cs) (hW : WRel μ I w0 h w)
    {todo : List AItem} {todoc : List Item} (hi : ItRels μ todo todoc) (ht : TRel μ I f.tm c.tmps) :
    MRel P μ I w0 { fr := { f with todo }, callers, h } (c.atR ⟨c.tmps, c.defers⟩ todoc) cs w := by
  refine ⟨⟨lo, hlo, ⟨hF.fn, hF.has, hF.kind, hF.round, hF.defers, hF.size, ?_⟩, hS⟩, hW⟩
  simp only
  rw [hm]
  exact .run rfl (.plain hi ht)

theorem late_heavy {tm : Tr AV} {o : Oper} (hl : late o = true) : aheavy P h tm o = none := by
  obtain ⟨dst, op, type, pos, after, guard⟩ := o
  cases op
  case call cl =>
    obtain ⟨callee, args, argTypes⟩ := cl
    cases callee
    case builtin b => cases b <;> first | (simp [late] at hl; done) | (simp only [aheavy])
    all_goals (simp [late] at hl)
  all_goals first | rfl | (simp [late] at hl; done)

/-- The end of a round, or of a body. -/
theorem aleave_sim {f : AFrame} {c : Frame} {callers : List AFrame} {cs tl : List Frame} {lo : Nat} {m' : AMach} {jump : Option Code} (e : aleave P f callers h jump = some m') (hlo : lo ≤ h.next) (hm : f.mode = .run) (hF : FRel P μ I h true lo h.next f c)
    (hS : Stack P μ I h lo callers cs) (hW : WRel μ I w0 h w) (ht : TRel μ I f.tm c.tmps)
    (hret : c.roundOf = none → (jump = none ∨ jump = some .ret) → step P (lone c (cs ++ tl) w) = .next (lone { c with mode := .returning } (cs ++ tl) w))
    (hround : ∀ B v w1 cc cs1, c.roundOf = some B → c.kind = .normal → (Instr.endRound B jump).run P w = .ok v w1 → step P (lone c (cc :: cs1) w) = .next (lone (cc.finish v) cs1 w1)) :
    Sim P I w0 m' c cs tl w := by
  unfold aleave at e
  split at e
  · rename_i hro
    have hcr : c.roundOf = none := by have := hF.round; rw [hro] at this; exact this.none_inv
    have hj : jump = none ∨ jump = some .ret := by
      split at e
      · exact .inl rfl
      · exact .inr rfl
      · cases e
    have e' : m' = { fr := { f with mode := .returning }, callers, h } := by
      rcases hj with rfl | rfl <;> simp at e <;> exact e.symm
    subst e'
    exact ⟨μ, _, cs, w, Steps.one (hret hcr hj), ⟨⟨lo, hlo, ⟨hF.fn, hF.has, hF.kind, hF.round, hF.defers, hF.size, .ret rfl ht⟩, hS⟩, hW⟩⟩
  · rename_i l hro
    have hrr := hF.round
    rw [hro] at hrr
    obtain ⟨B, o, N, hcr, hmu⟩ := hrr.some_inv
    split at e
    case h_2 => cases e
    case h_1 r hg =>
    have hg' := getLoop_spec hg
    obtain ⟨L, hL, hLr⟩ := loop_at hW hg' hmu
    obtain ⟨hd, e⟩ := cond_none e
    have hkind : c.kind = .normal := by rw [hF.kind, hd]; rfl
    have hrun := run_endRound (P := P) jump hL
    have g := loop_update (P := P) hW (L := L) hg' hmu (r' := { r with state := if jump.isNone then .ready else .done, pending := jump }) (L' := { L with state := if jump.isNone then .ready else .done, pending := jump })
      ⟨rfl, rfl, hLr.fn, hLr.nt, hLr.tm, hLr.params, hLr.assign, hLr.body, hLr.defers⟩
    obtain ⟨cc, cs', rfl, k1, _⟩ := areturn_sim (tl := tl) (u := .bool jump.isNone) e hlo (hS.mono g.ext (goes_keep g hlo)) g.rel (.bool _)
    exact ⟨μ, _, cs', _, Steps.one (hround B _ _ cc (cs' ++ tl) hcr hkind hrun), k1 hd⟩

theorem stepG_rangeFunc {c : Frame} {a : Act} {k : List Item} {cs : List Frame} {g : Operand} {ps : Array Tmp} {assign body : Code} {l : Nat} {mark : List Deferred} {w₁ : World}
    (he : (Instr.enterLoop c.fn a.tmps ps assign body c.roundOf).run P w = .ok (l, mark) w₁) :
    (stepG P true { frame := c.atR a (.code (.rangeFunc g ps assign body) :: k), callers := cs, status := .running, dying := none } w).bare =
      (stepG.apply P true (c.atR { a with defers := mark ++ a.defers } (.inRangeFunc l :: k)) cs none (do let d ← Deferred.ofValue (a.eval g) #[.func (.yield l) #[] #[]]; invoke d.target d.args) w₁).bare := by
  have hev := Frame.eval_atR c { a with defers := mark ++ a.defers } (.inRangeFunc l :: k)
  simp only [Frame.atR] at hev
  have hev2 : (({ tmps := a.tmps, defers := mark ++ a.defers } : Act).eval) = a.eval := by funext x; cases x <;> rfl
  have hres : resolve a.eval { callee := .value g, args := #[.const (.func (.yield l) #[] #[])], argTypes := #[] } 0 = Deferred.ofValue (a.eval g) #[.func (.yield l) #[] #[]] := by
    simp [resolve, Act.eval]
  simp only [stepG, stepG.exec, Frame.atR, Sem.runT_eq, he, GStep.bare_after]
  rw [hev, hev2, hres]

theorem stack_goes {lo : Nat} {callers : List AFrame} {cs : List Frame} (g : Goes P μ μ' I w0 h h' w') (hlo : lo ≤ h.next) (hS : Stack P μ I h lo callers cs) : Stack P μ' I h' lo callers cs := hS.mono g.ext (goes_keep g hlo)

theorem exec_sim (K : ProgOk P) {pl : Plans} {f : AFrame} {c : Frame} {callers : List AFrame} {cs tl : List Frame} {lo : Nat} {m' : AMach} (e : exec P pl f callers h = some m') (hlo : lo ≤ h.next) (hm : f.mode = .run) (hF : FRel P μ I h true lo h.next f c)
    (hS : Stack P μ I h lo callers cs) (hW : WRel μ I w0 h w) : Sim P I w0 m' c cs tl w := by
  obtain ⟨hcm, htd⟩ := hF.mode_run hm
  generalize hfm : f.todo = todo at htd
  generalize hct : c.todo = todoc at htd
  generalize hctm : c.tmps = tmps at htd
  have hc := atR_eq hcm hct
  unfold exec at e
  rw [hfm] at e
  simp only at e
  cases htd with
  | drawn hk hd hal =>
    rename_i ops plan restA β restC k kc
    cases restA with
    | nil =>
      -- the region's end: the model does what it has left
      simp at e
      subst e
      have hall : ∀ i ∈ restC, Gone [] i := fun i _ x hx => by cases hx
      rw [← List.append_nil restC] at hd
      obtain ⟨μ', tmps', w', x, kb, W', hsz, hD, hst⟩ := drun restC [] μ w tmps hd hall hW
      have hst' := hst c c.defers kc (cs ++ tl)
      rw [List.append_nil, ← hctm, hc] at hst'
      refine ⟨μ', c.atR ⟨tmps', c.defers⟩ kc, cs, w', hst'.trans (Steps.one (stepR_region_end)), ?_⟩
      have htm : TRel μ' I f.tm tmps' := fun t v ev => hD.tms t v ev (by intro i hi; cases hi)
      refine ⟨⟨lo, hlo, ⟨hF.fn, hF.has, hF.kind, hF.round.mono x, hF.defers.mono x, ?_, ?_⟩, hS.mono x (by intro b hb e; exact kb b hb e)⟩, W'⟩
      · show tmps'.size = f.nt; rw [hsz, ← hctm]; exact hF.size
      · simp only; rw [hm]; exact .run rfl (.plain (hk.mono x.mu) htm)
    | cons ia rest =>
      obtain ⟨i, chk⟩ := ia
      simp only at e
      cases ho : ops[i]? with
      | none => rw [ho] at e; cases e
      | some o =>
        rw [ho] at e
        simp only at e
        have hsize : tmps.size = f.nt := by rw [← hctm]; exact hF.size
        cases hl : late o with
        | true =>
          -- nothing is done by the model yet
          have fin : ∀ {h1 : Heap} {v : AV} {f' : AFrame}, afinish P h1 f v = some f' → ∃ tm', tmSet f.nt f.tm o.dst v = some tm' ∧ f' = { f with tm := tm', todo := .dreg ops rest :: k } := by
            intro h1 v f' he
            unfold afinish at he
            rw [hfm] at he
            simp only [ho] at he
            cases hs : tmSet f.nt f.tm o.dst v with
            | none => rw [hs] at he; cases he
            | some tm' =>
              rw [hs] at he
              simp only at he
              obtain ⟨_, he⟩ := cond_some he
              simp at he
              exact ⟨tm', rfl, he.symm⟩
          have done : ∀ {h1 : Heap} {v : AV} {f' : AFrame}, afinish P h1 f v = some f' → WRel μ I w0 h1 w → h.next ≤ h1.next → KeepBelow lo μ μ h h1 →
              ((awanted ops f.tm o = some true ∧ alight P h f.tm o = some v ∧ h1 = h) ∨ (awanted ops f.tm o = some true ∧ ∃ ob, afresh P h.next f.tm o = some (ob, v) ∧ h1 = h.new ob) ∨ (awanted ops f.tm o = some false ∧ v = .tuple [] ∧ h1 = h)) →
              Sim P I w0 { fr := f', callers, h := h1 } c cs tl w := by
            intro h1 v f' he W1 hn hkb hv
            obtain ⟨tm', hs, rfl⟩ := fin he
            have hD := late_step (P := P) hW hlo hd ho hl (by rw [hsize]; exact hs) hv
            refine ⟨μ, c, cs, w, Steps.refl _ _, ⟨⟨lo, Nat.le_trans hlo hn, ⟨hF.fn, hF.has, hF.kind, hF.round, hF.defers, hF.size, ?_⟩, hS.mono (.refl _ _) hkb⟩, W1⟩⟩
            simp only
            rw [hm]
            refine .run hcm ?_
            rw [hct, hctm]
            exact .drawn hk hD (by simp)
          unfold aoper at e
          split at e
          · rename_i hw
            split at e
            · rename_i v hv
              split at e
              · rename_i f' he
                simp at e
                subst e
                exact done he hW (Nat.le_refl _) (fun _ _ e => ⟨e, rfl⟩) (.inl ⟨hw, hv, rfl⟩)
              · cases e
            · split at e
              · rename_i ob v hv
                split at e
                · rename_i f' he
                  simp at e
                  subst e
                  refine done he (hW.new ob) (Nat.le_succ _) (fun b hb e => ⟨e, ?_⟩) (.inr (.inl ⟨hw, ob, hv, rfl⟩))
                  rw [Heap.get_new, if_neg (by omega)]
                · cases e
              · split at e
                · rename_i n h' hv
                  rw [late_heavy hl] at hv
                  cases hv
                · cases e
          · rename_i hw
            split at e
            · rename_i f' he
              simp at e
              subst e
              exact done he hW (Nat.le_refl _) (fun _ _ e => ⟨e, rfl⟩) (.inr (.inr ⟨hw, rfl, rfl⟩))
            · cases e
          · cases e
        | false =>
          -- the model does what is ahead of it, then this
          obtain ⟨pre, hpre⟩ := hd.pre
          obtain ⟨doneC, hlin⟩ := hd.lin
          have hiC : i ∈ restC := hd.sub (i, chk) (List.mem_cons_self)
          obtain ⟨a, b, rfl⟩ := List.append_of_mem hiC
          have hord := hd.ok.ord pre i chk rest hpre o ho
          have hgone : ∀ j ∈ a, Gone ((i, chk) :: rest) j := by
            intro j hj x hx hxj
            have hnd := hlin.nodup
            rcases List.mem_cons.1 hx with rfl | hx
            · subst hxj
              rw [List.nodup_append] at hnd
              have := hnd.2.1
              rw [List.nodup_append] at this
              exact this.2.2 _ hj _ (List.mem_cons_self) rfl
            · have hanc := (hord.2.2 hl).1 x hx
              rw [hxj] at hanc
              obtain ⟨a1, a2, rfl⟩ := List.append_of_mem hj
              exact hlin.not_anc (a := doneC ++ a1) (b := a2 ++ i :: b) (i := j) (j := i) (by simp) (by simp) hanc
          obtain ⟨μ', tmps', w', x, kb, W', hsz, hD, hst⟩ := drun a (i :: b) μ w tmps hd hgone hW
          have hst' := hst c c.defers kc (cs ++ tl)
          rw [← hctm, hc] at hst'
          refine Sim.head (c1 := c.atR ⟨tmps', c.defers⟩ (.inRegion ops (i :: b) :: kc)) (cs1 := cs) hst' ?_
          have hF' : FRel P μ' I h false lo h.next f (c.atR ⟨tmps', c.defers⟩ (.inRegion ops (i :: b) :: kc)) := by
            refine ⟨hF.fn, hF.has, hF.kind, hF.round.mono x, hF.defers.mono x, ?_, ?_⟩
            · show tmps'.size = f.nt; rw [hsz]; exact hsize
            · rw [hm, hfm]
              refine .run rfl (.drawn (hk.mono x.mu) ⟨hD.ok, hD.pre, hD.lin, hD.sub, fun j hj hg => ?_, hD.inj, hD.tms⟩ fun _ => ⟨i, chk, rest, b, o, rfl, rfl, ho, hl⟩)
              obtain ⟨o', d', p1, p2, p3, p4, p5⟩ := hD.pend j hj hg
              exact ⟨o', d', p1, p2, p3, p4, p5.wait⟩
          -- what it looks at is there
          obtain ⟨doneC', hlin'⟩ := hD.lin
          have hlook : ∀ t ∈ looks ops o, ∀ v, f.tm.get t = some v → VRel μ' I v (tmps'.getD t undef) := by
            intro t ht v hv
            refine hD.tms t v hv fun k' hk' hgk o' ho' hd' => ?_
            obtain ⟨o2, d2, p1, p2, p3, _, _⟩ := hD.pend k' hk' hgk
            rw [ho'] at p1; cases p1
            obtain ⟨p, c', q, ep⟩ : ∃ p c' q, plan = p ++ (k', c') :: q := by
              obtain ⟨y, hy, hyi⟩ := List.mem_map.1 (hD.ok.all k' (hlin'.lt k' (by simp; exact .inr (by simpa using hk'))))
              obtain ⟨y1, y2⟩ := y
              simp at hyi
              subst hyi
              obtain ⟨p, q, ep⟩ := List.append_of_mem hy
              exact ⟨p, y2, q, ep⟩
            obtain ⟨d3, q1, q2, q3⟩ := (hD.ok.ord p k' c' q ep o' ho').2.1 p3
            rw [hd'] at q1; cases q1
            have hki : k' ≠ i := fun z => by subst z; exact hgk (k', chk) (List.mem_cons_self) rfl
            have hanc := q3 i o ho (Ne.symm hki) (by simp [names, ht])
            have hk'' : k' ∈ b := by
              rcases List.mem_cons.1 hk' with z | z
              · exact absurd z hki
              · exact z
            exact hlin'.not_anc rfl hk'' hanc
          refine aoper_sim K e hm hF' hlo (Nat.le_refl _) (hS.mono x kb) W' rfl ho (fun y hy => evalOp_rel fun t ht v hv => ?_) (fun bb hb => awanted_rel (μ := μ') (I := I) hb fun t ht v hv => ?_)
          · subst ht; exact hlook t (by simp [looks]; left; exact tmpsOf_mem hy) v hv
          · exact hlook t (by simp [looks, ht]) v hv
  | plain hit htm =>
    rw [← hctm] at htm
    have ev : ∀ x, VRel μ I (evalOp f.tm x) (Act.eval ⟨c.tmps, c.defers⟩ x) := fun x => evalOp_rel fun t _ v hv => htm t v hv
    -- a step that only turns what there is to do
    have go : ∀ {todo' : List AItem} {todoc' : List Item}, ItRels μ todo' todoc' → step P (lone (c.atR ⟨c.tmps, c.defers⟩ todoc) (cs ++ tl) w) = .next (lone (c.atR ⟨c.tmps, c.defers⟩ todoc') (cs ++ tl) w) →
        Sim P I w0 { fr := { f with todo := todo' }, callers, h } c cs tl w := by
      intro todo' todoc' hi hs
      rw [hc] at hs
      exact ⟨μ, _, cs, w, Steps.one hs, turn hlo hm hF hS hW hi htm⟩
    cases hit with
    | nil =>
      refine aleave_sim e hlo hm hF hS hW htm (fun hr _ => ?_) (fun B v w1 cc cs1 hr hk he => ?_)
      · have := stepR_end (P := P) (b := c) (a := ⟨c.tmps, c.defers⟩) (cs := cs ++ tl) (w := w) hr
        rw [hc] at this
        exact this
      · have := stepR_round_end (P := P) (b := c) (a := ⟨c.tmps, c.defers⟩) (cs := cs1) (w := w) (c := cc) hr hk he
        rw [hc] at this
        exact this
    | cons hit hk =>
      rename_i ai ci k kc
      cases hit with
      | inBlock id => simp at e; subst e; exact go hk stepR_inBlock
      | inLoop body => simp at e; subst e; exact go (.cons (.code _) (.cons (.inLoop _) hk)) stepR_inLoop
      | inScope body => simp at e; subst e; exact go hk stepR_inScope'
      | inRangeFunc hl => cases e
      | beginRound =>
        simp only at e
        split at e
        case h_2 => cases e
        case h_1 l hro =>
        split at e
        case h_2 => cases e
        case h_1 r hg =>
        split at e
        case h_2 => cases e
        case h_1 hst =>
        simp at e
        subst e
        have hrr := hF.round
        rw [hro] at hrr
        obtain ⟨B, o, N, hcr, hmu⟩ := hrr.some_inv
        have hg' := getLoop_spec hg
        obtain ⟨L, hL, hLr⟩ := loop_at hW hg' hmu
        have hrun := run_beginRound (P := P) hL (by rw [hLr.state]; exact hst)
        have g := loop_update (P := P) hW (L := L) hg' hmu (r' := { r with state := .busy }) (L' := { L with state := .busy }) ⟨rfl, hLr.pending, hLr.fn, hLr.nt, hLr.tm, hLr.params, hLr.assign, hLr.body, hLr.defers⟩
        have hs := stepR_beginRound (P := P) (b := c) (a := ⟨c.tmps, c.defers⟩) (k := kc) (cs := cs ++ tl) hcr hrun
        rw [hc] at hs
        refine ⟨μ, _, cs, _, Steps.one hs, ⟨⟨lo, hlo, ⟨hF.fn, hF.has, hF.kind, hF.round, hF.defers, hF.size, ?_⟩, stack_goes g hlo hS⟩, g.rel⟩⟩
        simp only
        rw [hm]
        exact .run rfl (.plain hk htm)
      | endRangeFunc hmu =>
        rename_i l B o N
        simp only at e
        split at e
        case h_2 => cases e
        case h_1 r hg =>
        have hg' := getLoop_spec hg
        obtain ⟨L, hL, hLr⟩ := loop_at hW hg' hmu
        have hnb : r.state ≠ .busy := by intro z; rw [z] at e; cases e
        have e' : m' = { fr := { f with todo := match r.pending with | some c => .code c :: k | none => k }, callers, h := h.set l (.loop { r with state := .exhausted }) } := by
          split at e
          · cases e
          · simp at e; exact e.symm
        subst e'
        have hrun := run_endLoop (P := P) hL (by rw [hLr.state]; exact hnb)
        have g := loop_update (P := P) hW (L := L) hg' hmu (r' := { r with state := .exhausted }) (L' := { L with state := .exhausted }) ⟨rfl, hLr.pending, hLr.fn, hLr.nt, hLr.tm, hLr.params, hLr.assign, hLr.body, hLr.defers⟩
        have hs := stepR_endRangeFunc (P := P) (b := c) (a := ⟨c.tmps, c.defers⟩) (k := kc) (cs := cs ++ tl) hrun
        rw [hc] at hs
        refine ⟨μ, _, cs, _, Steps.one hs, ⟨⟨lo, hlo, ⟨hF.fn, hF.has, hF.kind, hF.round, hF.defers, hF.size, ?_⟩, stack_goes g hlo hS⟩, g.rel⟩⟩
        simp only
        rw [hm, hLr.pending]
        refine .run rfl (.plain ?_ htm)
        cases r.pending with
        | none => exact hk
        | some cd => exact .cons (.code _) hk
      | reg ops i =>
        cases hdr : ops.toList.drop i with
        | nil =>
          rw [hdr] at e
          simp at e
          subst e
          have hlen : ops.size - i = 0 := by
            have := congrArg List.length hdr
            simpa using this
          rw [hlen] at hct hc
          refine ⟨μ, _, cs, w, Steps.one ?_, turn hlo hm hF hS hW hk htm⟩
          have := stepR_region_end (P := P) (b := c) (a := ⟨c.tmps, c.defers⟩) (ops := ops) (k := kc) (cs := cs ++ tl) (w := w)
          have hc' : c.atR ⟨c.tmps, c.defers⟩ (.inRegion ops [] :: kc) = c := hc
          rw [hc'] at this
          exact this
        | cons o rest =>
          rw [hdr] at e
          simp only at e
          obtain ⟨d1, d2, d3⟩ := drop_cons hdr
          have d3' : i < ops.size := by simpa using d3
          have d1' : ops[i]? = some o := by simpa using d1
          have hct' : c.todo = .inRegion ops (i :: List.range' (i + 1) (ops.size - (i + 1))) :: kc := by rw [hct, range'_step d3']
          have hF' : FRel P μ I h false lo h.next f c := by
            refine ⟨hF.fn, hF.has, hF.kind, hF.round, hF.defers, hF.size, ?_⟩
            rw [hm, hfm]
            refine .run hcm (.plain ?_ htm)
            rw [hct]
            exact .cons (.reg ops i) hk
          exact aoper_sim K e hm hF' hlo (Nat.le_refl _) hS hW hct' d1' (fun x _ => ev x) (fun b hb => awanted_rel (μ := μ) (I := I) hb fun t _ v hv => htm t v hv)
      | code cd =>
        cases cd with
        | skip => simp at e; subst e; exact go hk stepR_skip
        | label l => simp at e; subst e; exact go hk stepR_label
        | seq a b => simp at e; subst e; exact go (.cons (.code _) (.cons (.code _) hk)) stepR_seq
        | block id b => simp at e; subst e; exact go (.cons (.code _) (.cons (.inBlock _) hk)) stepR_block
        | loop b => simp at e; subst e; exact go (.cons (.code _) (.cons (.inLoop _) hk)) stepR_loop
        | cond x a b =>
          simp only at e
          have hx := ev x
          split at e
          case h_2 => cases e
          case h_1 t hq =>
          simp at e
          subst e
          rw [hq] at hx
          generalize hxv : Act.eval ⟨c.tmps, c.defers⟩ x = xv at hx
          cases hx
          refine go (.cons (.code _) hk) ?_
          rw [stepR_cond hxv]
          cases t <;> rfl
        | exit id =>
          simp only at e
          have hx := exit_rel (id := id) hk
          cases hq : aexitTo id k with
          | some k' =>
            rw [hq] at e
            simp at e
            subst e
            obtain ⟨kc', h1, h2⟩ := hx.1 k' hq
            exact go h2 (stepR_exit h1)
          | none =>
            rw [hq] at e
            simp only at e
            have hx2 := hx.2 hq
            refine aleave_sim e hlo hm hF hS hW htm (fun hr hj => ?_) (fun B v w1 cc cs1 hr hk' he => ?_)
            · rcases hj with hj | hj <;> cases hj
            · have := stepR_round_exit (P := P) (b := c) (a := ⟨c.tmps, c.defers⟩) (k := kc) (cs := cs1) (w := w) (c := cc) hr hk' hx2 he
              rw [hc] at this
              exact this
        | ret =>
          refine aleave_sim e hlo hm hF hS hW htm (fun hr _ => ?_) (fun B v w1 cc cs1 hr hk' he => ?_)
          · have := stepR_ret (P := P) (b := c) (a := ⟨c.tmps, c.defers⟩) (k := kc) (cs := cs ++ tl) (w := w) hr
            rw [hc] at this
            exact this
          · have := stepR_round_ret (P := P) (b := c) (a := ⟨c.tmps, c.defers⟩) (k := kc) (cs := cs1) (w := w) (c := cc) hr hk' he
            rw [hc] at this
            exact this
        | scope b => simp at e; subst e; exact go (.cons (.code _) (.cons (.inScope _) hk)) stepR_scope'
        | goto l => cases e
        | refuse y => cases e
        | region id ops dr =>
          cases dr with
          | false =>
            simp at e
            subst e
            have hz : ItRels μ (.reg ops 0 ops.toList :: k) (.inRegion ops (List.range ops.size) :: kc) := by
              have := ItRels.cons (ItRel.reg (μ := μ) ops 0) hk
              simpa [List.range_eq_range'] using this
            exact go hz stepR_region
          | true =>
            simp only at e
            split at e
            case h_2 => cases e
            case h_1 l hl =>
            split at e
            case h_2 => cases e
            case h_1 p hp =>
            obtain ⟨hok, e⟩ := cond_some e
            simp at e
            subst e
            have ok := planOk_spec hok
            obtain ⟨hlin, hlen⟩ := lin_schedule ok.pred (w.tape w.drawn (.order c.fn id))
            have hs := stepR_region_draw (P := P) (b := c) (a := ⟨c.tmps, c.defers⟩) (ops := ops) (id := id) (k := kc) (cs := cs ++ tl) (w := w)
            rw [hc, K.mixed] at hs
            refine ⟨μ, _, cs, _, Steps.one hs, ⟨⟨lo, hlo, ⟨hF.fn, hF.has, hF.kind, hF.round, hF.defers, hF.size, ?_⟩, hS⟩, hW.drew _⟩⟩
            simp only
            rw [hm]
            refine .run rfl (.drawn (β := fun _ => 0) (plan := p) hk ⟨ok, ⟨[], rfl⟩, ⟨[], by simpa using hlin⟩, fun x hx => ?_, fun i hi hg => ?_, fun i hi j hj hg => ?_, fun t v hv _ => htm t v hv⟩ (by simp))
            · refine Decidable.byContradiction fun hn => ?_
              have := length_le_of_lt ops.size (x.1 :: Region.schedule true ops (w.tape w.drawn (.order c.fn id))) (List.nodup_cons.2 ⟨hn, hlin.nodup⟩) (fun y hy => by
                rcases List.mem_cons.1 hy with rfl | hy
                · exact ok.lt _ (List.mem_map.2 ⟨x, hx, rfl⟩)
                · exact hlin.lt y hy)
              simp only [List.length_cons] at this
              omega
            · obtain ⟨y, hy, hyi⟩ := List.mem_map.1 (ok.all i (hlin.lt i hi))
              exact absurd hyi (hg y hy)
            · obtain ⟨y, hy, hyi⟩ := List.mem_map.1 (ok.all i (hlin.lt i hi))
              exact absurd hyi (hg y hy)
        | rangeFunc g ps assign body =>
          simp only at e
          split at e
          · rename_i hro
            have hcr : c.roundOf = none := by have := hF.round; rw [hro] at this; exact this.none_inv
            cases ha : acall P (evalOp f.tm g) [.yieldf (h.new (.deferred (some []))).next] with
            | none => rw [ha] at e; cases e
            | some n =>
              rw [ha] at e
              simp only at e
              -- two blocks are laid
              have g1 : Goes P μ (upd μ h.next (w.heap.size, 0, 0)) I w0 h (h.new (.deferred (some []))) (w.pushBlock (.deferred (some []))) := goes_push hW (.deferredSome .nil)
              have hL : LRel (upd μ h.next (w.heap.size, 0, 0)) I { state := .ready, pending := none, fn := f.fn, nt := f.nt, tm := f.tm, params := ps, assign, body, defers := h.next } { state := .ready, pending := none, fn := c.fn, tmps := c.tmps, params := ps, assign, body, defers := w.heap.size } :=
                ⟨rfl, rfl, hF.fn, hF.size, htm.mono g1.ext, rfl, rfl, rfl, ⟨0, 0, upd_self _ _ _⟩⟩
              have hn1 := g1.rel.next_none
              have g2 := goes_push (P := P) (N := 0) g1.rel (o := .loop { state := .ready, pending := none, fn := c.fn, tmps := c.tmps, params := ps, assign, body, defers := w.heap.size }) (.loop (hL.mono (.upd hn1)))
              have gg := g1.trans g2
              have hrun := run_enterLoop_outer (P := P) (w := w) c.fn c.tmps ps assign body
              have hyield : VRels (upd (upd μ h.next (w.heap.size, 0, 0)) (h.new (.deferred (some []))).next ((w.pushBlock (.deferred (some []))).heap.size, 0, 0)) I [.yieldf (h.new (.deferred (some []))).next] (#[.func (.yield (w.heap.size + 1)) #[] #[]] : Array Value).toList := by
                refine .cons ?_ .nil
                have := VRel.yieldf (I := I) (upd_self (upd μ h.next (w.heap.size, 0, 0)) (h.new (.deferred (some []))).next ((w.pushBlock (.deferred (some []))).heap.size, 0, 0))
                rw [pushBlock_size] at this ⊢
                exact this
              have hR := acall_run K ha ((ev g).mono gg.ext) hyield ((w.pushBlock (.deferred (some []))).pushBlock (.loop { state := .ready, pending := none, fn := c.fn, tmps := c.tmps, params := ps, assign, body, defers := w.heap.size }))
              have hm2 : (upd (upd μ h.next (w.heap.size, 0, 0)) (h.new (.deferred (some []))).next ((w.pushBlock (.deferred (some []))).heap.size, 0, 0)) (h.new (.deferred (some []))).next = some (w.heap.size + 1, 0, 0) := by
                rw [upd_self, pushBlock_size]
              have hm1 : (upd (upd μ h.next (w.heap.size, 0, 0)) (h.new (.deferred (some []))).next ((w.pushBlock (.deferred (some []))).heap.size, 0, 0)) h.next = some (w.heap.size, 0, 0) := by
                exact g2.ext.mu _ _ (upd_self _ _ _)
              have hF2 : FRel P (upd (upd μ h.next (w.heap.size, 0, 0)) (h.new (.deferred (some []))).next ((w.pushBlock (.deferred (some []))).heap.size, 0, 0)) I ((h.new (.deferred (some []))).new (.loop { state := .ready, pending := none, fn := f.fn, nt := f.nt, tm := f.tm, params := ps, assign, body, defers := h.next })) false lo h.next
                  { f with todo := .inRangeFunc (h.new (.deferred (some []))).next :: k, defers := { tgt := .collected h.next, args := [] } :: f.defers }
                  (c.atR { tmps := c.tmps, defers := [{ target := .collected w.heap.size, args := #[] }] ++ c.defers } (.inRangeFunc (w.heap.size + 1) :: kc)) := by
                refine ⟨hF.fn, hF.has, hF.kind, hF.round.mono gg.ext, .cons (.collected hm1) (hF.defers.mono gg.ext), hF.size, ?_⟩
                simp only
                rw [hm]
                exact .run rfl (.plain (.cons (.inRangeFunc hm2) (hk.mono gg.ext.mu)) (htm.mono gg.ext))
              obtain ⟨c', cs', w'', k1, k2⟩ := apply_sim (tl := tl) K e (by exact hm) hF2 hlo gg.next (hS.mono gg.ext (goes_keep gg hlo)) gg.rel hR
              refine ⟨_, c', cs', w'', Steps.one (step_lone_go ?_), k2⟩
              have hsr := stepG_rangeFunc (P := P) (c := c) (a := ⟨c.tmps, c.defers⟩) (k := kc) (cs := cs ++ tl) (g := g) (w := w) (by rw [hcr]; exact hrun)
              rw [hc] at hsr
              rw [hsr]
              exact k1
          · rename_i outer hro
            have hrr := hF.round
            rw [hro] at hrr
            obtain ⟨B, o, N, hcr, hmu⟩ := hrr.some_inv
            split at e
            case h_2 => cases e
            case h_1 r hg =>
            have hg' := getLoop_spec hg
            obtain ⟨L, hLo, hLr⟩ := loop_at hW hg' hmu
            cases ha : acall P (evalOp f.tm g) [.yieldf h.next] with
            | none => rw [ha] at e; cases e
            | some n =>
              rw [ha] at e
              simp only at e
              obtain ⟨od, Nd, hmd⟩ := hLr.defers
              have hn := hW.next_none
              have hx : Ext μ (upd μ h.next (w.heap.size, 0, 0)) I I := .upd hn
              have hL : LRel μ I { state := .ready, pending := none, fn := f.fn, nt := f.nt, tm := f.tm, params := ps, assign, body, defers := r.defers } { state := .ready, pending := none, fn := c.fn, tmps := c.tmps, params := ps, assign, body, defers := L.defers } :=
                ⟨rfl, rfl, hF.fn, hF.size, htm, rfl, rfl, rfl, ⟨od, Nd, hmd⟩⟩
              have gg := goes_push (P := P) (N := 0) hW (o := .loop { state := .ready, pending := none, fn := c.fn, tmps := c.tmps, params := ps, assign, body, defers := L.defers }) (.loop (hL.mono hx))
              have hrun := run_enterLoop_inner (P := P) hLo c.fn c.tmps ps assign body
              have hyield : VRels (upd μ h.next (w.heap.size, 0, 0)) I [.yieldf h.next] (#[.func (.yield w.heap.size) #[] #[]] : Array Value).toList :=
                .cons (.yieldf (upd_self _ _ _)) .nil
              have hR := acall_run K ha ((ev g).mono hx) hyield (w.pushBlock (.loop { state := .ready, pending := none, fn := c.fn, tmps := c.tmps, params := ps, assign, body, defers := L.defers }))
              have hF2 : FRel P (upd μ h.next (w.heap.size, 0, 0)) I (h.new (.loop { state := .ready, pending := none, fn := f.fn, nt := f.nt, tm := f.tm, params := ps, assign, body, defers := r.defers })) false lo h.next
                  { f with todo := .inRangeFunc h.next :: k } (c.atR { tmps := c.tmps, defers := [] ++ c.defers } (.inRangeFunc w.heap.size :: kc)) := by
                refine ⟨hF.fn, hF.has, hF.kind, hF.round.mono hx, hF.defers.mono hx, hF.size, ?_⟩
                simp only
                rw [hm]
                exact .run rfl (.plain (.cons (.inRangeFunc (upd_self _ _ _)) (hk.mono hx.mu)) (htm.mono hx))
              obtain ⟨c', cs', w'', k1, k2⟩ := apply_sim (tl := tl) K e (by exact hm) hF2 hlo gg.next (hS.mono gg.ext (goes_keep gg hlo)) gg.rel hR
              refine ⟨_, c', cs', w'', Steps.one (step_lone_go ?_), k2⟩
              have hsr := stepG_rangeFunc (P := P) (c := c) (a := ⟨c.tmps, c.defers⟩) (k := kc) (cs := cs ++ tl) (g := g) (w := w) (by rw [hcr]; exact hrun)
              rw [hc] at hsr
              rw [hsr]
              exact k1

end
end Go.Abs
namespace Go.Abs
open Go.RowKit (Below)
set_option linter.unusedSimpArgs false
set_option linter.unusedVariables false
set_option linter.unusedSectionVars false
section
variable {P : Program} {μ μ' : Mu} {I : Imm} [GlobI I] {h h' : Heap} {w0 w w' : World}

/-- A frame that ends, whatever its heaps. -/
theorem StRel.ended {act act' : Bool} {lo hi lo' hi' : Nat} {h h' : Heap} {m : AMode} {todo : List AItem} {tm : Tr AV} {c c' : Frame} (x : Ext μ μ' I I) (hm : m ≠ .run) (e1 : c'.mode = c.mode) (e2 : c'.tmps = c.tmps) (r : StRel P μ I h act lo hi m todo tm c) : StRel P μ' I h' act' lo' hi' m todo tm c' := by
  cases r with
  | run a b => exact absurd rfl hm
  | ret a b => exact .ret (e1.trans a) (by rw [e2]; exact b.mono x)
  | pan a b d => exact .pan (e1.trans a) (b.mono x) (by rw [e2]; exact d.mono x)

theorem stepG_unwind {c : Frame} {cs : List Frame} (hm : c.mode ≠ .run) : stepG P true { frame := c, callers := cs, status := .running, dying := none } w = Go.unwind P true c cs none w := by
  obtain ⟨fn, tmps, todo, defers, mode, kind, roundOf⟩ := c
  cases mode with
  | run => exact absurd rfl hm
  | returning => rfl
  | panicking ch => rfl

theorem unwind_sim (K : ProgOk P) {f : AFrame} {c : Frame} {callers : List AFrame} {cs tl : List Frame} {lo : Nat} {m' : AMach} (e : Abs.unwind P f callers h = some m') (hlo : lo ≤ h.next) (hm : f.mode ≠ .run) (hF : FRel P μ I h true lo h.next f c)
    (hS : Stack P μ I h lo callers cs) (hW : WRel μ I w0 h w) : Sim P I w0 m' c cs tl w := by
  have hcm : c.mode ≠ .run := by
    have := hF.st
    intro z
    cases hmf : f.mode with
    | run => exact hm hmf
    | returning => rw [hmf] at this; cases this with | ret a b => rw [z] at a; cases a
    | panicking ch => rw [hmf] at this; cases this with | pan a b d => rw [z] at a; cases a
  have hstep : ∀ {c' : Frame} {cs' : List Frame} {w1 : World}, (Go.unwind P true c (cs ++ tl) none w).bare = .go { frame := c', callers := cs' ++ tl, status := .running, dying := none } w1 → step P (lone c (cs ++ tl) w) = .next (lone c' (cs' ++ tl) w1) := by
    intro c' cs' w1 hh
    refine step_lone_go ?_
    rw [stepG_unwind hcm]
    exact hh
  have hst2 : ∀ (ds : List Deferred) (h' : Heap) (act' : Bool) (lo' hi' : Nat), StRel P μ I h' act' lo' hi' f.mode f.todo f.tm { c with defers := ds } := fun ds h' a l hh => StRel.ended (c := c) (.refl _ _) hm rfl rfl hF.st
  unfold Abs.unwind at e
  have hds := hF.defers
  generalize hfd : f.defers = ads at e hds
  generalize hcd : c.defers = cds at hds
  cases hds with
  | nil =>
    simp only at e
    split at e
    · cases e
    · -- a panic goes on
      rename_i chain hmf
      split at e
      case h_2 => cases e
      case h_1 c1 rest =>
      simp at e
      subst e
      cases hS with
      | cons hF1 hlo1 hS1 =>
        rename_i lo1 cc cs1
        have hst := hF.st
        rw [hmf] at hst
        cases hst with
        | pan z1 z2 z3 =>
          rename_i b
          refine ⟨μ, cc.raise b, cs1, w, Steps.one (hstep ?_), ⟨⟨lo1, Nat.le_trans hlo1 hlo, raise_sim hF1 z2, hS1⟩, hW⟩⟩
          obtain ⟨fn, hfn⟩ := hF.has
          have hfn' : P.funcs[c.fn]? = some fn := by rw [hF.fn]; exact hfn
          have hcatch : c.catches P = false := by unfold Frame.catches; rw [hfn']
          unfold Go.unwind
          rw [hcd]
          simp only [z1, hcatch, Bool.false_eq_true, if_false, List.cons_append, GStep.bare_go]
    · -- a value is handed back
      rename_i hmf
      split at e
      case h_2 => cases e
      case h_1 fn hfn =>
      have hst := hF.st
      rw [hmf] at hst
      cases hst with
      | ret z1 z2 =>
        have hex : ∃ vs, aresults P h f.tm fn.results.toList = some vs ∧ areturn P f callers (packed vs) h = some m' := by
          cases hr : aresults P h f.tm fn.results.toList with
          | none => rw [hr] at e; cases e
          | some vs =>
            rw [hr] at e
            refine ⟨vs, rfl, ?_⟩
            cases vs with
            | nil => exact e
            | cons a b => cases b <;> exact e
        obtain ⟨vs, hr, e⟩ := hex
        obtain ⟨u, hu1, hu2⟩ := results_run (P := P) hW z2 hr
        obtain ⟨cc, cs', rfl, k1, k2⟩ := areturn_sim (tl := tl) e hlo hS hW hu2
        have hfn' : P.funcs[c.fn]? = some fn := by rw [hF.fn]; exact hfn
        have hun : (Go.unwind P true c (cc :: cs' ++ tl) none w).bare = (doReturn P true c (cc :: cs' ++ tl) none u w).bare := by
          unfold Go.unwind
          rw [hcd]
          simp only [z1, hfn', Sem.runT_eq, hu1, GStep.bare_after]
        cases hd : f.deferred with
        | false =>
          have hk : c.kind = .normal := by rw [hF.kind, hd]; rfl
          refine ⟨μ, cc.finish u, cs', w, Steps.one (hstep ?_), k1 hd⟩
          rw [hun]
          simp [doReturn, hk]
        | true =>
          have hk : c.kind = .deferred := by rw [hF.kind, hd]; rfl
          refine ⟨μ, _, cs', w, Steps.one (hstep ?_), k2 hd⟩
          rw [hun]
          simp only [doReturn, hk, List.cons_append]
          rfl
  | cons hd hds =>
    rename_i ad d ads cds
    cases hd with
    | collected hmu =>
      rename_i r B o N a args
      simp only at e
      split at e
      case h_2 => cases e
      case h_1 calls hg =>
      simp at e
      subst e
      obtain ⟨obj, ho, hor⟩ := hW.objs _ _ _ _ _ hg hmu
      cases hor with
      | deferredSome hcalls =>
        rename_i ccs
        have hrun := run_takeDeferred (P := P) ho
        have g : Goes P μ μ I w0 h (h.set r (.deferred none)) (w.putObj B (.deferred none)) := by
          refine ⟨.refl _ _, hW.update hg hmu .deferredNone, Nat.le_refl _, fun b hb e => ⟨e, ?_⟩⟩
          rw [Heap.get_set, if_neg (fun q => by subst q; rw [hmu] at e; cases e)]
        refine ⟨μ, { c with defers := ccs ++ cds }, cs, _, Steps.one (hstep ?_), ⟨⟨lo, hlo, ⟨hF.fn, hF.has, hF.kind, hF.round, hcalls.append hds, hF.size, hst2 _ _ _ _ _⟩, stack_goes g hlo hS⟩, g.rel⟩⟩
        unfold Go.unwind
        rw [hcd]
        simp only [Sem.runT_eq, hrun, GStep.bare_after, GStep.bare_go]
    | func hargs =>
      rename_i gf a cap args
      simp only at e
      split at e
      case h_2 => cases e
      case h_1 g he =>
      simp at e
      subst e
      have hE := enter_rel he hargs true h.next h.next h
      simp only [if_true] at hE
      have hbody : ∃ fn cd, P.funcs[gf]? = some fn ∧ fn.body = some cd := by
        unfold enter at he
        cases hf : P.funcs[gf]? with
        | none => rw [hf] at he; cases he
        | some fn =>
          rw [hf] at he
          simp only at he
          cases hb : fn.body with
          | none => rw [hb] at he; cases he
          | some cd => exact ⟨fn, cd, rfl, hb⟩
      obtain ⟨fn, cd, hf, hb⟩ := hbody
      refine ⟨μ, Frame.enter P gf (args ++ cap) .deferred, { c with defers := cds } :: cs, w, Steps.one (hstep ?_), ⟨⟨h.next, Nat.le_refl _, hE, .cons (lo := lo) ⟨hF.fn, hF.has, hF.kind, hF.round, hds, hF.size, hst2 _ _ _ _ _⟩ hlo hS⟩, hW⟩⟩
      unfold Go.unwind
      rw [hcd]
      simp only [callDeferred, Bool.false_and, Bool.false_eq_true, if_false, Sem.runT_eq, invoke, callFunc_run K hf hb, GStep.bare_after, GStep.bare_go, List.cons_append]

theorem astep_sim (K : ProgOk P) {pl : Plans} {m m' : AMach} {c : Frame} {cs tl : List Frame} (e : astep P pl m = some m') (r : MRel P μ I w0 m c cs w) : Sim P I w0 m' c cs tl w := by
  obtain ⟨⟨lo, hlo, hF, hS⟩, hW⟩ := r
  unfold astep at e
  split at e
  · rename_i hm
    exact exec_sim K e hlo hm hF hS hW
  · rename_i hm
    exact unwind_sim K e hlo hm hF hS hW

theorem arun_sim (K : ProgOk P) {pl : Plans} : ∀ (n : Nat) {m m' : AMach} {μ : Mu} {c : Frame} {cs tl : List Frame} {w : World}, arun P pl n m = some m' → MRel P μ I w0 m c cs w → Sim P I w0 m' c cs tl w
  | 0, m, m', μ, c, cs, tl, w, e, r => by simp [arun] at e; subst e; exact ⟨μ, c, cs, w, Steps.refl _ _, r⟩
  | n + 1, m, m', μ, c, cs, tl, w, e, r => by
    unfold arun at e
    cases h1 : astep P pl m with
    | none => rw [h1] at e; cases e
    | some m1 =>
      rw [h1] at e
      obtain ⟨μ1, c1, cs1, w1, s1, r1⟩ := astep_sim (tl := tl) K h1 r
      obtain ⟨μ2, c2, cs2, w2, s2, r2⟩ := arun_sim K n (tl := tl) e r1
      exact ⟨μ2, c2, cs2, w2, s1.trans s2, r2⟩

/-- The world in which a call begins. -/
theorem start_rel (w : World) (himm : ∀ B o v, I B o = some v → w.cell? ⟨B, o, none⟩ = some v) : WRel (fun _ => none) I w { next := 0, t := .nil } w :=
  ⟨Below.refl _ _, fun b ob e => by simp [Heap.get, Tr.get_nil] at e, fun b B o N e => by simp at e, fun b ob B o N e => by simp [Heap.get, Tr.get_nil] at e, fun b b' ob ob' B o N o' N' e => by simp [Heap.get, Tr.get_nil] at e,
    fun B o v e => ⟨himm B o v e, rfl, fun b ob o' N e => by simp [Heap.get, Tr.get_nil] at e⟩⟩

end
end Go.Abs
/- The abstract machine's step once more, written for the kernel: frames are taken to pieces, and what an operation does is a closure that the kernel keeps. -/
namespace Go.Abs
set_option linter.unusedVariables false
set_option linter.unusedSimpArgs false
noncomputable section

inductive Res where
  | val (v : AV)
  | new (ob : AObj) (v : AV)
  | next (n : ANext) (h : Heap)
  | no

def Res.ofVal (r : Option AV) : Res := Option.rec (motive := fun _ => Res) .no (fun v => .val v) r
def Res.ofNext (r : Option (ANext × Heap)) : Res := Option.rec (motive := fun _ => Res) .no (fun p => .next p.1 p.2) r
def Res.ofNew (r : Option (AObj × AV)) : Res := Option.rec (motive := fun _ => Res) .no (fun p => .new p.1 p.2) r

/-- What an operation comes to, guards aside. -/
def resOf (P : Program) (h : Heap) (tm : Tr AV) (o : Oper) : Res :=
  match alight P h tm o with
  | some v => .val v
  | none => match afresh P h.next tm o with
    | some (ob, v) => .new ob v
    | none => match aheavy P h tm o with
      | some (n, h) => .next n h
      | none => .no

structure KArg where
  run : Tr AV → AV
def kArg (x : Operand) : KArg :=
  match x with
  | .tmp t => ⟨fun tm => Option.rec (motive := fun _ => AV) .bad (fun v => v) ((wayTo AV (Nat.succ t) t).get tm)⟩
  | .const v => ⟨fun _ => ofV v⟩
  | .global g => ⟨fun _ => gv g⟩
  | .func f => ⟨fun _ => .func f [] []⟩
theorem kArg_run (x : Operand) (tm : Tr AV) : (kArg x).run tm = evalOp tm x := by
  cases x with
  | tmp t => simp only [kArg, evalOp, tmGet, Tr.get]; cases (wayTo AV (Nat.succ t) t).get tm <;> rfl
  | const v => rfl
  | global g => rfl
  | func f => rfl

structure KBin where
  run : AV → AV → Option AV
def kBin (P : Program) (op : BinOp) (t : TypeId) (x y : Operand) : KBin :=
  match op with
  | .add => ⟨fun a b => match a with
    | .int j m => match b with
      | .int k n => cond (decide (j = k)) (some (.int j (awrap j (Int.add m n)))) none
      | b => abin P .add t x y (.int j m) b
    | a => abin P .add t x y a b⟩
  | op => ⟨fun a b => abin P op t x y a b⟩
theorem kBin_run (P : Program) (op : BinOp) (t : TypeId) (x y : Operand) (a b : AV) : (kBin P op t x y).run a b = abin P op t x y a b := by
  cases op <;> try rfl
  cases a <;> try rfl
  cases b <;> try rfl

structure KOp where
  run : Heap → Tr AV → Res
def kOp1 (P : Program) (o : Oper) : KOp :=
  match o.op with
  | .move x => ⟨fun _ tm => .val ((kArg x).run tm)⟩
  | .assign x => ⟨fun _ tm => .val ((kArg x).run tm)⟩
  | .pick c a b => ⟨fun _ tm => .ofVal (pick ((kArg c).run tm) ((kArg a).run tm) ((kArg b).run tm))⟩
  | .load t a => ⟨fun h tm => .ofVal (aload P h t ((kArg a).run tm))⟩
  | .binOp op t x y _ => ⟨fun _ tm => .ofVal ((kBin P op t x y).run ((kArg x).run tm) ((kArg y).run tm))⟩
  | .unOp op _ x => ⟨fun _ tm => .ofVal (aun op ((kArg x).run tm))⟩
  | .convert s d x => ⟨fun _ tm => .ofVal (aconv P s d ((kArg x).run tm))⟩
  | .fieldAddr s x f => ⟨fun _ tm => .ofVal (afieldAddr P s ((kArg x).run tm) f)⟩
  | .field s x f => ⟨fun _ tm => .ofVal (afield P s ((kArg x).run tm) f)⟩
  | .indexAddr t x i => ⟨fun _ tm => .ofVal (aindexAddr P t ((kArg x).run tm) ((kArg i).run tm))⟩
  | .index t x i => ⟨fun _ tm => .ofVal (aindex P t ((kArg x).run tm) ((kArg i).run tm))⟩
  | .store t a x => ⟨fun h tm => .ofNext ((astore P h t ((kArg a).run tm) ((kArg x).run tm)).map fun h => (.value .bad, h))⟩
  | .alloc t => ⟨fun h tm => .ofNew (afresh P h.next tm o)⟩
  | .box t x => ⟨fun h tm => .ofNew (afresh P h.next tm o)⟩
  | .buildSlice t n p => ⟨fun h tm => .ofNew (afresh P h.next tm o)⟩
  | .makeSlice t n p => ⟨fun h tm => .ofNew (afresh P h.next tm o)⟩
  | .call c => match c.callee with
    | .builtin b => match b with
      | .append => ⟨fun h tm => .ofNext (aheavy P h tm o)⟩
      | _ => ⟨fun h tm => resOf P h tm o⟩
    | .value f => ⟨fun h tm => .ofNext ((acall P ((kArg f).run tm) (c.args.toList.map (evalOp tm))).map fun n => (n, h))⟩
    | _ => ⟨fun h tm => resOf P h tm o⟩
  | _ => ⟨fun h tm => resOf P h tm o⟩
theorem Res.ofVal_eq (r : Option AV) : Res.ofVal r = match r with | some v => .val v | none => .no := by cases r <;> rfl
theorem Res.ofNext_eq (r : Option (ANext × Heap)) : Res.ofNext r = match r with | some (n, h) => .next n h | none => .no := by cases r <;> rfl
theorem Res.ofNew_eq (r : Option (AObj × AV)) : Res.ofNew r = match r with | some (n, h) => .new n h | none => .no := by cases r <;> rfl

theorem kOp1_run (P : Program) (o : Oper) (h : Heap) (tm : Tr AV) : (kOp1 P o).run h tm = resOf P h tm o := by
  obtain ⟨dst, op, type, guard, pos, after⟩ := o
  cases op
  case call c =>
    obtain ⟨callee, args, argTypes⟩ := c
    cases callee
    case builtin b =>
      cases b <;> try rfl
      simp only [kOp1, Res.ofNext_eq, resOf, alight, afresh]
    case value f =>
      simp only [kOp1, Res.ofNext_eq, resOf, alight, afresh, kArg_run, aheavy]
    all_goals rfl
  all_goals first
    | rfl
    | (simp only [kOp1, Res.ofVal_eq, Res.ofNext_eq, Res.ofNew_eq, resOf, alight, afresh, aheavy, kArg_run, kBin_run]; done)
    | (simp only [kOp1, Res.ofVal_eq, Res.ofNext_eq, Res.ofNew_eq, resOf, alight, afresh, aheavy, kArg_run, kBin_run]; rfl)
    | (simp only [kOp1, Res.ofVal_eq, Res.ofNext_eq, Res.ofNew_eq, resOf, alight, afresh, aheavy, kArg_run, kBin_run]; split <;> simp_all)
end
end Go.Abs
namespace Go.Abs
set_option linter.unusedVariables false
set_option linter.unusedSimpArgs false
noncomputable section

def resW (P : Program) (h : Heap) (tm : Tr AV) (ops : Array Oper) (o : Oper) : Res :=
  match awanted ops tm o with
  | some true => resOf P h tm o
  | some false => .val (.tuple [])
  | none => .no
def kOp (P : Program) (ops : Array Oper) (o : Oper) : KOp :=
  match o.guard with
  | none => kOp1 P o
  | some _ => ⟨fun h tm => match awanted ops tm o with
    | some b => Bool.rec (motive := fun _ => Res) (.val (.tuple [])) ((kOp1 P o).run h tm) b
    | none => .no⟩
theorem kOp_run (P : Program) (ops : Array Oper) (o : Oper) (h : Heap) (tm : Tr AV) : (kOp P ops o).run h tm = resW P h tm ops o := by
  unfold kOp resW
  cases hg : o.guard with
  | none => simp only [kOp1_run, awanted, hg]
  | some g =>
    simp only
    cases awanted ops tm o with
    | none => rfl
    | some b => cases b <;> simp [kOp1_run]

/-- A frame takes what its operation has yielded. -/
def finF (P : Program) (h : Heap) (fr : AFrame) (callers : List AFrame) (v : AV) : Option AMach :=
  match fr with
  | ⟨fn, nt, tm, todo, defers, mode, deferred, roundOf⟩ => match todo with
    | [] => none
    | it :: k => match it with
      | .reg ops i rest => match rest with
        | [] => none
        | o :: rest => match o.dst with
          | none => some ⟨⟨fn, nt, tm, .reg ops (Nat.succ i) rest :: k, defers, mode, deferred, roundOf⟩, callers, h⟩
          | some d => cond (Nat.blt d nt) (some ⟨⟨fn, nt, tm.set d v, .reg ops (Nat.succ i) rest :: k, defers, mode, deferred, roundOf⟩, callers, h⟩) none
      | .dreg ops rest => match rest with
        | [] => none
        | x :: rest => match x with
          | (i, chk) => match ops[i]? with
            | none => none
            | some o => match o.dst with
              | none => cond (again P h tm ops chk) (some ⟨⟨fn, nt, tm, .dreg ops rest :: k, defers, mode, deferred, roundOf⟩, callers, h⟩) none
              | some d => cond (Nat.blt d nt) (cond (again P h (tm.set d v) ops chk) (some ⟨⟨fn, nt, tm.set d v, .dreg ops rest :: k, defers, mode, deferred, roundOf⟩, callers, h⟩) none) none
      | it => match afinish P h ⟨fn, nt, tm, it :: k, defers, mode, deferred, roundOf⟩ v with
        | some fr => some ⟨fr, callers, h⟩
        | none => none
def finM (P : Program) (h : Heap) (fr : AFrame) (callers : List AFrame) (v : AV) : Option AMach :=
  match afinish P h fr v with
  | some fr => some { fr, callers, h }
  | none => none
theorem finF_eq (P : Program) (h : Heap) (fr : AFrame) (callers : List AFrame) (v : AV) : finF P h fr callers v = finM P h fr callers v := by
  obtain ⟨fn, nt, tm, todo, defers, mode, deferred, roundOf⟩ := fr
  unfold finF finM
  cases todo with
  | nil => rfl
  | cons it k =>
    cases it
    case reg ops i rest =>
      cases rest with
      | nil => rfl
      | cons o rest =>
        simp only [afinish, tmSet]
        cases o.dst with
        | none => rfl
        | some d => simp only; cases Nat.blt d nt <;> rfl
    case dreg ops rest =>
      cases rest with
      | nil => rfl
      | cons x rest =>
        obtain ⟨i, chk⟩ := x
        simp only [afinish, tmSet]
        cases ops[i]? with
        | none => rfl
        | some o =>
          simp only
          cases o.dst with
          | none => simp only; cases again P h tm ops chk <;> rfl
          | some d =>
            simp only
            cases Nat.blt d nt with
            | false => rfl
            | true => simp only [cond_true]; cases again P h (tm.set d v) ops chk <;> rfl
    all_goals rfl

/-- A frame goes on with what its operation has come to. -/
def goF (P : Program) (h : Heap) (o : Oper) (fr : AFrame) (callers : List AFrame) (r : Res) : Option AMach :=
  match r with
  | .val v => finF P h fr callers v
  | .new ob v => finF P (h.new ob) fr callers v
  | .next n h => match n with
    | .value v => finF P h fr callers v
    | .enter f args => match enter P f args false with
      | some g => some ⟨g, fr :: callers, h⟩
      | none => none
    | n => apply P fr callers n h (match o.op with | .call c => c.args.toList.map (evalOp fr.tm) | _ => [])
  | .no => none
theorem goF_eq (P : Program) (h : Heap) (ops : Array Oper) (o : Oper) (fr : AFrame) (callers : List AFrame) :
    goF P h o fr callers ((kOp P ops o).run h fr.tm) = aoper P fr callers h ops o := by
  rw [kOp_run]
  unfold goF aoper resW resOf
  cases awanted ops fr.tm o with
  | none => rfl
  | some b =>
    cases b with
    | false => simp only [finF_eq, finM]; rfl
    | true =>
      simp only
      cases alight P h fr.tm o with
      | some v => simp only [finF_eq, finM]; rfl
      | none =>
        simp only
        cases afresh P h.next fr.tm o with
        | some x => obtain ⟨ob, v⟩ := x; simp only [finF_eq, finM]; rfl
        | none =>
          simp only
          cases aheavy P h fr.tm o with
          | none => rfl
          | some x =>
            obtain ⟨n, h'⟩ := x
            cases n <;> first | rfl | (simp only [finF_eq, finM, apply]; rfl)

structure KCode where
  run : FuncId → Nat → Tr AV → List AItem → List ADef → Bool → Option Nat → List AFrame → Heap → Option AMach
def kCode (P : Program) (pl : Plans) (c : Code) : KCode :=
  match c with
  | .skip => ⟨fun fn nt tm k ds df ro cs h => some ⟨⟨fn, nt, tm, k, ds, .run, df, ro⟩, cs, h⟩⟩
  | .seq a b => ⟨fun fn nt tm k ds df ro cs h => some ⟨⟨fn, nt, tm, .code a :: .code b :: k, ds, .run, df, ro⟩, cs, h⟩⟩
  | .cond c thn els => ⟨fun fn nt tm k ds df ro cs h => match (kArg c).run tm with
    | .bool b => Bool.rec (motive := fun _ => Option AMach) (some ⟨⟨fn, nt, tm, .code els :: k, ds, .run, df, ro⟩, cs, h⟩) (some ⟨⟨fn, nt, tm, .code thn :: k, ds, .run, df, ro⟩, cs, h⟩) b
    | _ => none⟩
  | .block id body => ⟨fun fn nt tm k ds df ro cs h => some ⟨⟨fn, nt, tm, .code body :: .inBlock id :: k, ds, .run, df, ro⟩, cs, h⟩⟩
  | .loop body => ⟨fun fn nt tm k ds df ro cs h => some ⟨⟨fn, nt, tm, .code body :: .inLoop body :: k, ds, .run, df, ro⟩, cs, h⟩⟩
  | .scope body => ⟨fun fn nt tm k ds df ro cs h => some ⟨⟨fn, nt, tm, .code body :: .inScope body :: k, ds, .run, df, ro⟩, cs, h⟩⟩
  | .exit id => ⟨fun fn nt tm k ds df ro cs h => match aexitTo id k with
    | some k => some ⟨⟨fn, nt, tm, k, ds, .run, df, ro⟩, cs, h⟩
    | none => aleave P ⟨fn, nt, tm, .code (.exit id) :: k, ds, .run, df, ro⟩ cs h (some (.exit id))⟩
  | .ret => ⟨fun fn nt tm k ds df ro cs h => match ro with
    | none => some ⟨⟨fn, nt, tm, .code .ret :: k, ds, .returning, df, none⟩, cs, h⟩
    | some l => aleave P ⟨fn, nt, tm, .code .ret :: k, ds, .run, df, some l⟩ cs h (some .ret)⟩
  | .region id ops d => Bool.rec (motive := fun _ => KCode)
      ⟨fun fn nt tm k ds df ro cs h => some ⟨⟨fn, nt, tm, .reg ops (nat_lit 0) ops.toList :: k, ds, .run, df, ro⟩, cs, h⟩⟩
      ⟨fun fn nt tm k ds df ro cs h => match findA fn pl with
        | some l => match findA id l with
          | some p => cond (planOk ops p) (some ⟨⟨fn, nt, tm, .dreg ops p :: k, ds, .run, df, ro⟩, cs, h⟩) none
          | none => none
        | none => none⟩ d
  | c => ⟨fun fn nt tm k ds df ro cs h => exec P pl ⟨fn, nt, tm, .code c :: k, ds, .run, df, ro⟩ cs h⟩
theorem kCode_run (P : Program) (pl : Plans) (c : Code) (fn : FuncId) (nt : Nat) (tm : Tr AV) (k : List AItem) (ds : List ADef) (df : Bool) (ro : Option Nat) (cs : List AFrame) (h : Heap) :
    (kCode P pl c).run fn nt tm k ds df ro cs h = exec P pl ⟨fn, nt, tm, .code c :: k, ds, .run, df, ro⟩ cs h := by
  cases c
  case cond c thn els =>
    simp only [kCode, kArg_run, exec]
    cases evalOp tm c <;> try rfl
    rename_i b; cases b <;> rfl
  case ret => cases ro <;> rfl
  case region id ops d =>
    cases d with
    | false => rfl
    | true => rfl
  all_goals rfl

/-- A frame that is done, without deferred calls. -/
def retF (P : Program) (fr : AFrame) (callers : List AFrame) (v : AV) (h : Heap) : Option AMach :=
  match callers with
  | [] => none
  | c :: rest => match fr.deferred with
    | true => areturn P fr (c :: rest) v h
    | false => match c.mode with
      | .run => finF P h c rest v
      | _ => none
theorem retF_eq (P : Program) (fr : AFrame) (callers : List AFrame) (v : AV) (h : Heap) : retF P fr callers v h = areturn P fr callers v h := by
  cases callers with
  | nil => rfl
  | cons c rest =>
    unfold retF
    cases hd : fr.deferred with
    | true => rfl
    | false =>
      simp only [areturn, hd, cond_false, finF_eq, finM]
      cases c.mode <;> rfl
def unwindF (P : Program) (fr : AFrame) (callers : List AFrame) (h : Heap) : Option AMach :=
  match fr with
  | ⟨fn, nt, tm, todo, defers, mode, deferred, roundOf⟩ => match defers with
    | [] => match mode with
      | .returning => match P.funcs[fn]? with
        | some f => match aresults P h tm f.results.toList with
          | some [v] => retF P ⟨fn, nt, tm, todo, defers, mode, deferred, roundOf⟩ callers v h
          | some vs => retF P ⟨fn, nt, tm, todo, defers, mode, deferred, roundOf⟩ callers (.tuple vs) h
          | none => none
        | none => none
      | m => unwind P ⟨fn, nt, tm, todo, [], m, deferred, roundOf⟩ callers h
    | ds => unwind P ⟨fn, nt, tm, todo, ds, mode, deferred, roundOf⟩ callers h
theorem unwindF_eq (P : Program) (fr : AFrame) (callers : List AFrame) (h : Heap) : unwindF P fr callers h = unwind P fr callers h := by
  obtain ⟨fn, nt, tm, todo, defers, mode, deferred, roundOf⟩ := fr
  cases defers with
  | cons d ds => rfl
  | nil =>
    cases mode <;> try rfl
    simp only [unwindF, unwind, retF_eq]
    rfl

def astepF (P : Program) (pl : Plans) (m : AMach) : Option AMach :=
  match m with
  | ⟨fr, callers, h⟩ => match fr with
    | ⟨fn, nt, tm, todo, defers, mode, deferred, roundOf⟩ => match mode with
      | .run => match todo with
        | [] => aleave P ⟨fn, nt, tm, [], defers, .run, deferred, roundOf⟩ callers h none
        | it :: k => match it with
          | .code c => (kCode P pl c).run fn nt tm k defers deferred roundOf callers h
          | .reg ops i rest => match rest with
            | [] => some ⟨⟨fn, nt, tm, k, defers, .run, deferred, roundOf⟩, callers, h⟩
            | o :: rest => goF P h o ⟨fn, nt, tm, .reg ops i (o :: rest) :: k, defers, .run, deferred, roundOf⟩ callers ((kOp P ops o).run h tm)
          | .dreg ops rest => match rest with
            | [] => some ⟨⟨fn, nt, tm, k, defers, .run, deferred, roundOf⟩, callers, h⟩
            | x :: rest => match x with
              | (i, chk) => match ops[i]? with
                | some o => goF P h o ⟨fn, nt, tm, .dreg ops ((i, chk) :: rest) :: k, defers, .run, deferred, roundOf⟩ callers ((kOp P ops o).run h tm)
                | none => none
          | .inBlock _ => some ⟨⟨fn, nt, tm, k, defers, .run, deferred, roundOf⟩, callers, h⟩
          | .inScope _ => some ⟨⟨fn, nt, tm, k, defers, .run, deferred, roundOf⟩, callers, h⟩
          | .inLoop body => some ⟨⟨fn, nt, tm, .code body :: .inLoop body :: k, defers, .run, deferred, roundOf⟩, callers, h⟩
          | it => exec P pl ⟨fn, nt, tm, it :: k, defers, .run, deferred, roundOf⟩ callers h
      | mode => unwindF P ⟨fn, nt, tm, todo, defers, mode, deferred, roundOf⟩ callers h
theorem astepF_eq (P : Program) (pl : Plans) (m : AMach) : astepF P pl m = astep P pl m := by
  obtain ⟨⟨fn, nt, tm, todo, defers, mode, deferred, roundOf⟩, callers, h⟩ := m
  unfold astep astepF
  cases mode with
  | returning => simp only [unwindF_eq]
  | panicking c => simp only [unwindF_eq]
  | run =>
    cases todo with
    | nil => rfl
    | cons it k =>
      cases it
      case code c => simp only [kCode_run]
      case reg ops i rest =>
        cases rest with
        | nil => rfl
        | cons o rest => exact goF_eq P h ops o ⟨fn, nt, tm, .reg ops i (o :: rest) :: k, defers, .run, deferred, roundOf⟩ callers
      case dreg ops rest =>
        cases rest with
        | nil => rfl
        | cons x rest =>
          obtain ⟨i, chk⟩ := x
          simp only [exec]
          cases ops[i]? with
          | none => rfl
          | some o => exact goF_eq P h ops o ⟨fn, nt, tm, .dreg ops ((i, chk) :: rest) :: k, defers, .run, deferred, roundOf⟩ callers
      all_goals rfl

def arunF (P : Program) (pl : Plans) : Nat → AMach → Option AMach
  | 0, m => some m
  | n + 1, m => match astepF P pl m with
    | some m => arunF P pl n m
    | none => none
theorem arunF_eq (P : Program) (pl : Plans) : ∀ (n : Nat) (m : AMach), arunF P pl n m = arun P pl n m
  | 0, m => rfl
  | n + 1, m => by
    simp only [arunF, arun, astepF_eq]
    cases astep P pl m with
    | none => rfl
    | some m => exact arunF_eq P pl n m
end
end Go.Abs
/- A run in pieces: blocks that nobody names any more may be dropped between two pieces. -/
namespace Go.Abs
open Go.RowKit (Below)
set_option linter.unusedSimpArgs false
set_option linter.unusedVariables false
set_option linter.unusedSectionVars false

noncomputable def keepT (h : Heap) : List Nat → Tr AObj
  | [] => .nil
  | b :: l => match h.get b with
    | some o => (keepT h l).set b o
    | none => keepT h l
noncomputable def keepH (h : Heap) (keep : List Nat) : Heap := { next := h.next, t := keepT h keep }

theorem keepT_get (h : Heap) : ∀ (l : List Nat) (b : Nat), (keepT h l).get b = if b ∈ l then h.get b else none
  | [], b => by simp [keepT, Tr.get_nil]
  | c :: l, b => by
    unfold keepT
    cases hc : h.get c with
    | none =>
      simp only [keepT_get h l b, List.mem_cons]
      by_cases e : b = c
      · subst e; simp [hc]
      · simp [e]
    | some o =>
      simp only [Tr.get_set, keepT_get h l b, List.mem_cons]
      by_cases e : b = c
      · subst e; simp [hc]
      · simp [e]
theorem keepH_get (h : Heap) (l : List Nat) (b : Nat) : (keepH h l).get b = if b ∈ l then h.get b else none := keepT_get h l b

def blockIn : AV → Option Nat
  | .ptr b _ => some b
  | .slice b _ _ _ => some b
  | .map b => some b
  | _ => none
noncomputable def pinned (keep : List Nat) (tm : Tr AV) (o : Oper) : Bool :=
  !isNew o || match o.dst with
    | some d => match blockIn (tmGet tm d) with
      | some b => keep.contains b
      | none => true
    | none => true
noncomputable def pinsF (keep : List Nat) (f : AFrame) : Bool :=
  match f.todo with
  | .dreg ops _ :: _ => ops.toList.all (pinned keep f.tm)
  | _ => true
def quiet (f : AFrame) : Bool :=
  match f.todo with
  | .dreg _ _ :: _ => false
  | _ => true
noncomputable def cut (keep : List Nat) (m : AMach) : Option AMach :=
  cond (quiet m.fr && m.callers.all (pinsF keep)) (some { fr := m.fr, callers := m.callers, h := keepH m.h keep }) none

theorem afresh_block {P : Program} {n : Nat} {tm : Tr AV} {o : Oper} {ob : AObj} {v : AV} (e : afresh P n tm o = some (ob, v)) : blockIn v = some n := by
  unfold afresh at e
  split at e
  · split at e
    · obtain ⟨_, e⟩ := cond_some e; cases e; rfl
    · cases e
  · split at e
    · cases e
    · obtain ⟨_, e⟩ := cond_some e; cases e; rfl
  · split at e
    · split at e
      · obtain ⟨_, e⟩ := cond_some e
        split at e
        · obtain ⟨_, e⟩ := cond_some e; cases e; rfl
        · cases e
      · cases e
    · cases e
  · split at e
    · split at e
      · obtain ⟨_, e⟩ := cond_some e; cases e; rfl
      · cases e
    · cases e
  · split at e
    · cases e; rfl
    · split at e
      · cases e; rfl
      · cases e
  · cases e

section
variable {P : Program} {μ : Mu} {I : Imm} [GlobI I] {h : Heap} {w0 w : World} {keep : List Nat}

theorem Pend.kept {lo hi : Nat} {ops : Array Oper} {tm : Tr AV} {o : Oper} {d β : Nat} (hd : o.dst = some d) (hp : pinned keep tm o = true) (p : Pend P μ h false lo hi ops tm o d β) : Pend P μ (keepH h keep) false lo hi ops tm o d β := by
  unfold Pend at p ⊢
  cases hw : awanted ops tm o with
  | none => rw [hw] at p; exact p
  | some b =>
    rw [hw] at p
    cases b with
    | false => exact p
    | true =>
      simp only at p ⊢
      split at p
      · rename_i hn
        obtain ⟨ob, h1, h2, h3, h4, h5⟩ := p
        rw [if_pos hn]
        have hb := afresh_block h1
        unfold pinned at hp
        simp only [hn, Bool.not_true, Bool.false_or, hd, hb] at hp
        refine ⟨ob, h1, h2, ?_, h4, h5⟩
        rw [keepH_get, if_pos (by simpa using hp)]; exact h3
      · rename_i hn
        rw [if_neg hn]
        intro hr
        have hr' : reads o = false := hr.resolve_left (by simp)
        rw [alight_pure (h' := h) hr']
        exact p (.inr hr')

theorem FRel.kept {lo hi : Nat} {f : AFrame} {c : Frame} (hp : pinsF keep f = true) (r : FRel P μ I h false lo hi f c) : FRel P μ I (keepH h keep) false lo hi f c := by
  refine ⟨r.fn, r.has, r.kind, r.round, r.defers, r.size, ?_⟩
  have hs := r.st
  obtain ⟨fn, nt, tm, todo, defers, mode, deferred, roundOf⟩ := f
  simp only at hs ⊢
  cases hs with
  | ret a b => exact .ret a b
  | pan a b c => exact .pan a b c
  | run a b =>
    refine .run a ?_
    generalize c.todo = ct at b ⊢
    generalize c.tmps = cm at b ⊢
    cases b with
    | plain a b => exact .plain a b
    | drawn a b c =>
      refine .drawn a ⟨b.ok, b.pre, b.lin, b.sub, fun i hi hg => ?_, b.inj, b.tms⟩ c
      obtain ⟨o, d, h1, h2, h3, h5, h4⟩ := b.pend i hi hg
      refine ⟨o, d, h1, h2, h3, h5, h4.kept h2 ?_⟩
      unfold pinsF at hp
      simp only [List.all_eq_true] at hp
      exact hp o (Array.mem_toList_iff.2 (Array.mem_of_getElem? h1))

theorem FRel.keptQuiet {lo hi : Nat} {f : AFrame} {c : Frame} (hp : quiet f = true) (r : FRel P μ I h true lo hi f c) : FRel P μ I (keepH h keep) true lo hi f c := by
  refine ⟨r.fn, r.has, r.kind, r.round, r.defers, r.size, ?_⟩
  have hs := r.st
  obtain ⟨fn, nt, tm, todo, defers, mode, deferred, roundOf⟩ := f
  simp only at hs ⊢
  cases hs with
  | ret a b => exact .ret a b
  | pan a b c => exact .pan a b c
  | run a b =>
    refine .run a ?_
    generalize c.todo = ct at b ⊢
    generalize c.tmps = cm at b ⊢
    cases b with
    | plain a b => exact .plain a b
    | drawn a b c => simp [quiet] at hp

theorem Stack.kept {ub : Nat} {fs : List AFrame} {cs : List Frame} (r : Stack P μ I h ub fs cs) (hp : fs.all (pinsF keep) = true) : Stack P μ I (keepH h keep) ub fs cs := by
  induction r with
  | nil => exact .nil
  | cons a b _ ih =>
    simp only [List.all_cons, Bool.and_eq_true] at hp
    exact .cons (a.kept hp.1) b (ih hp.2)

theorem WRel.kept (W : WRel μ I w0 h w) : WRel μ I w0 (keepH h keep) w := by
  have hk : ∀ c ob, (keepH h keep).get c = some ob → h.get c = some ob := by
    intro c ob e; rw [keepH_get] at e; split at e
    · exact e
    · cases e
  exact ⟨W.below, fun c ob e => W.live c ob (hk c ob e), W.mapped, fun c ob B o N e m => W.objs c ob B o N (hk c ob e) m,
    fun c c' ob ob' B o N o' N' e e' => W.inj c c' ob ob' B o N o' N' (hk _ _ e) (hk _ _ e'),
    fun B o v e => ⟨(W.imm B o v e).1, rfl, fun c ob o' N e' => (W.imm B o v e).2.2 c ob o' N (hk _ _ e')⟩⟩

theorem MRel.cut {m m' : AMach} {c : Frame} {cs : List Frame} (e : cut keep m = some m') (r : MRel P μ I w0 m c cs w) : MRel P μ I w0 m' c cs w := by
  unfold Abs.cut at e
  obtain ⟨hq, e⟩ := cond_some e
  cases e
  simp only [Bool.and_eq_true] at hq
  obtain ⟨⟨lo, h1, h2, h3⟩, hW⟩ := r
  exact ⟨⟨lo, h1, h2.keptQuiet hq.1, h3.kept hq.2⟩, hW.kept⟩
end

/-- From m the machine comes to m', blocks dropped. -/
def Leads (P : Program) (m m' : AMach) : Prop :=
  ∀ (I : Imm) [GlobI I] (w0 : World) (μ : Mu) (c : Frame) (cs tl : List Frame) (w : World), MRel P μ I w0 m c cs w → Sim P I w0 m' c cs tl w
theorem Leads.refl {P : Program} (m : AMach) : Leads P m m := fun I _ w0 μ c cs tl w r => ⟨μ, c, cs, w, Steps.refl _ _, r⟩
theorem Leads.trans {P : Program} {a b d : AMach} (x : Leads P a b) (y : Leads P b d) : Leads P a d := fun I _ w0 μ c cs tl w r => by
  obtain ⟨μ1, c1, cs1, w1, s1, r1⟩ := x I w0 μ c cs tl w r
  obtain ⟨μ2, c2, cs2, w2, s2, r2⟩ := y I w0 μ1 c1 cs1 tl w1 r1
  exact ⟨μ2, c2, cs2, w2, s1.trans s2, r2⟩
theorem leads_run {P : Program} (K : ProgOk P) {pl : Plans} {n : Nat} {m m' : AMach} (e : arunF P pl n m = some m') : Leads P m m' := fun I _ w0 μ c cs tl w r =>
  arun_sim K n (by rw [← arunF_eq]; exact e) r
theorem leads_cut {P : Program} {keep : List Nat} {m m' : AMach} (e : cut keep m = some m') : Leads P m m' := fun I _ w0 μ c cs tl w r => ⟨μ, c, cs, w, Steps.refl _ _, r.cut e⟩
theorem leads_piece {P : Program} (K : ProgOk P) {pl : Plans} {n : Nat} {keep : List Nat} {m m' : AMach} (e : (arunF P pl n m).bind (cut keep) = some m') : Leads P m m' := by
  cases h : arunF P pl n m with
  | none => rw [h] at e; cases e
  | some x => rw [h] at e; exact (leads_run K h).trans (leads_cut e)

noncomputable def begin_ (P : Program) (f : FuncId) (args : List AV) : Option AMach := (enter P f args false).map fun fr => { fr, callers := [], h := { next := 0, t := .nil } }
/-- A run of the abstract machine to the call's end is the model's call, in every world. -/
theorem calls_of_leads {P : Program} {I : Imm} [GlobI I] {f : FuncId} {args : List AV} {as_ : Array Value} {m0 : AMach} {m : AMach} {v : AV} (h0 : begin_ P f args = some m0) (h1 : Leads P m0 m) (h2 : done P f m = some v)
    (w : World) (himm : ∀ B o v, I B o = some v → w.cell? ⟨B, o, none⟩ = some v) (hargs : VRels (fun _ => none) I args as_.toList) :
    Calls P f as_ w fun e w' => ∃ μ u, e = .returned u ∧ VRel μ I v u ∧ Below w.heap.size w w' := by
  intro cs
  unfold begin_ at h0
  cases hfr : enter P f args false with
  | none => rw [hfr] at h0; cases h0
  | some fr =>
  rw [hfr] at h0
  simp only [Option.map_some, Option.some.injEq] at h0
  subst h0
  have hE := enter_rel hfr hargs true 0 0 { next := 0, t := .nil }
  simp only [Bool.false_eq_true, if_false] at hE
  have r0 : MRel P (fun _ => none) I w { fr, callers := [], h := { next := 0, t := .nil } } (Frame.enter P f as_ .normal) [] w := ⟨⟨0, Nat.le_refl _, hE, .nil⟩, start_rel w himm⟩
  obtain ⟨μ, c', cs', w', s, ⟨⟨lo, hlo, hF, hS⟩, hW⟩⟩ := h1 I w _ _ _ cs _ r0
  unfold done at h2
  split at h2
  case h_2 => cases h2
  case h_1 hc hm hd =>
  rw [hc] at hS
  cases hS
  obtain ⟨hq, h2⟩ := cond_some h2
  simp only [Bool.and_eq_true, Bool.not_eq_true'] at hq
  have hfn := beq_tt hq.1
  split at h2
  case h_2 => cases h2
  case h_1 fn hfn' =>
  have hex : ∃ vs, aresults P m.h m.fr.tm fn.results.toList = some vs ∧ packed vs = v := by
    cases hr : aresults P m.h m.fr.tm fn.results.toList with
    | none => rw [hr] at h2; cases h2
    | some vs =>
      rw [hr] at h2
      refine ⟨vs, rfl, ?_⟩
      cases vs with
      | nil => simp at h2; exact h2
      | cons a b => cases b <;> (simp at h2; exact h2)
  obtain ⟨vs, hr, rfl⟩ := hex
  have hst := hF.st
  rw [hm] at hst
  cases hst with
  | ret z1 z2 =>
    obtain ⟨u, hu1, hu2⟩ := results_run (P := P) hW z2 hr
    refine ⟨.returned u, w', c', ⟨μ, u, rfl, hu2, hW.below⟩, s, by rw [hF.fn, hfn], z1, ?_, by rw [hF.kind, hq.2]; rfl, fn, ?_, hu1⟩
    · have := hF.defers; rw [hd] at this; generalize c'.defers = ds at this; cases this; rfl
    · rw [hF.fn]; exact hfn'


/-! ### Places in the program's code -/
def subCode : List Nat → Code → Code
  | [], c => c
  | i :: l, c => match c with
    | .seq a b => match i with
      | 0 => subCode l a
      | _ => subCode l b
    | .cond _ a b => match i with
      | 0 => subCode l a
      | _ => subCode l b
    | .block _ a => subCode l a
    | .loop a => subCode l a
    | .scope a => subCode l a
    | .rangeFunc _ _ a b => match i with
      | 0 => subCode l a
      | _ => subCode l b
    | c => c
noncomputable def codeAt (P : Program) (f : FuncId) (l : List Nat) : Code :=
  match P.funcs[f]? with
  | some fn => match fn.body with
    | some c => subCode l c
    | none => .skip
  | none => .skip
noncomputable def opsAt (P : Program) (f : FuncId) (l : List Nat) : Array Oper :=
  match codeAt P f l with
  | .region _ ops _ => ops
  | _ => #[]
noncomputable def parAt (P : Program) (f : FuncId) (l : List Nat) : Array Tmp :=
  match codeAt P f l with
  | .rangeFunc _ ps _ _ => ps
  | _ => #[]
noncomputable def regAt (P : Program) (f : FuncId) (l : List Nat) (i : Nat) : AItem := .reg (opsAt P f l) i ((opsAt P f l).toList.drop i)
def bytesOf (l : List Nat) : ByteArray := ⟨⟨l.map UInt8.ofNat⟩⟩
end Go.Abs
/- What a claim's row asks, from a run of the abstract machine. -/
namespace Go.Abs
open Go.ChangeShapes Go.WideShapes
open Go.RowKit (Below)

theorem post_of_below {H : Type} {enc : TypeId × Value → H} {P : Program} {f : Func} {s : ChangeSpec} {apart fresh handsOn again : Bool} {W W' : World} {args : Array Value} {v : Value} {ds gs : List (DataW H)} {before pa pv : List MemPlace}
    (hW : DataW.Whole enc P f.params.toList s.vars apart W args.toList ds gs before)
    (hres : ∀ (b : Nat) (sp : Nat → Bool) (hd : Bool), DataW.TrodAll enc P W' b sp hd f.resultTypes.toList (v.resultList f.resultTypes.size) (s.fn H (ds ++ gs)).results [])
    (hargs : ∀ sp : Nat → Bool, (∀ p ∈ before, sp p.block = true) → DataW.TrodAll enc P W' 0 sp true f.params.toList args.toList (s.fn H (ds ++ gs)).args pa)
    (hvars : ∀ sp : Nat → Bool, (∀ p ∈ before, sp p.block = true) → DataW.TrodVars enc P W' sp s.vars (s.fn H (ds ++ gs)).vars pv)
    (hps : before = pa ++ pv) (hb : Below W.heap.size W W')
    (hok : ∀ (j : Nat) (t : TypeId) (r : Value), f.resultTypes[j]? = some t → (v.resultList f.resultTypes.size)[j]? = some r → Value.okWide P W' .any 0 t r) :
    s.post enc P f apart fresh handsOn again W args v W' := by
  have hold : ∀ p ∈ before, (fun b => decide (b < W.heap.size)) p.block = true := fun p hp => by simpa using hW.lt p hp
  refine ⟨ds, gs, before, [], pa, pv, hW, hres _ _ _, hargs _ hold, hvars _ hold, World.keptBut_mono (fun p hp => ⟨hp, ?_⟩) (hb.frame (· ∈ before)), fun _ => ?_⟩
  · rw [hps, List.mem_append] at hp
    exact Or.inr hp
  · have hlt := hW.lt
    obtain ⟨_, _, _, _, _, hz, hn⟩ := hW
    refine ⟨hok, _, _, ([] ++ pa) ++ pv, ⟨[] ++ pa, pv, trodAll_append (hargs _ (fun _ _ => rfl)) (hres _ _ _), hvars _ (fun _ _ => rfl), rfl, ?_, ?_⟩, ?_⟩
    · intro b off hp
      have hp' : MemPlace.cell b off ∈ before := by rw [hps]; simpa using hp
      rw [hb.frozen (p := ⟨b, off, none⟩) (hlt _ hp')]
      exact hz b off hp'
    · intro ha
      have := hn ha
      rw [hps] at this
      simpa using this
    · intro p hp _
      rw [hps]
      simpa using hp

/-- A closed law: the machine comes to 'true'. -/
theorem calls_true {P : Program} {f : FuncId} {m0 m : AMach} (h0 : begin_ P f [] = some m0) (h1 : Leads P m0 m) (h2 : done P f m = some (.bool true)) (w : World) [GlobI fun B o => w.cell? ⟨B, o, none⟩] :
    Calls P f #[] w fun e w' => e = .returned (.bool true) ∧ Below w.heap.size w w' :=
  (calls_of_leads (I := fun B o => w.cell? ⟨B, o, none⟩) (as_ := #[]) h0 h1 h2 w (fun _ _ _ e => e) (by exact .nil)).mono fun e w' ⟨μ, u, he, hu, hb⟩ => by
    subst he
    cases hu
    exact ⟨rfl, hb⟩
theorem leads_last {P : Program} (K : ProgOk P) {pl : Plans} {f : FuncId} {n : Nat} {m : AMach} {v : AV} (e : (arunF P pl n m).bind (done P f) = some v) : ∃ m', Leads P m m' ∧ done P f m' = some v := by
  cases h : arunF P pl n m with
  | none => rw [h] at e; cases e
  | some x => rw [h] at e; exact ⟨x, leads_run K h, e⟩
end Go.Abs
namespace Go.Proofs.YtbapeebnpnjaiaaDoor.GlobK
set_option linter.unusedVariables false
open Go

theorem own : ownKnob Tryd.prog.godebug = none := by kernel_rfl
theorem gDir : Tryd.prog.globalNamed "haruspex/hidden.directions" = some 0 := by kernel_rfl
theorem tDir : (Tryd.prog.globals[0]?).map (·.type) = some 188 := by kernel_rfl
theorem cells187 : Tryd.prog.cellsOf 187 = 1 := by kernel_rfl
def laidH : List (String × DataW Unit) := [("haruspex/hidden.directions", Rows.laid_haruspex_hidden_directions)]
/-- The door's own heap meets the condition. -/
theorem door_met (os : Os) (args : Array Value) : laidMetH Tryd.prog laidH ((World.doorLaid Tryd.prog 2000 os).forCall (fun _ _ => 0) ⟨#[], args, []⟩).memory :=
  laidMetH_of_parts3 (fuel := 8) (laidMet_of_run' 8 (by kernel_rfl) (by kernel_rfl)) (by kernel_rfl) (by kernel_rfl)
set_option maxRecDepth 100000 in
/-- What the condition gives: the two functions. -/
theorem of_laid {W : World} (h : laidMetH Tryd.prog laidH W) : W.cell? ⟨0, 0, none⟩ = some (.func (.func 43) #[] #[]) ∧ W.cell? ⟨0, 1, none⟩ = some (.func (.func 173) #[] #[]) := by
  obtain ⟨g, t, cs, fuel, p, hg, ht, hv, hd⟩ := h.funcs (List.mem_singleton.2 rfl)
  obtain rfl := Option.some.inj (gDir.symm.trans hg)
  obtain rfl := Option.some.inj (tDir.symm.trans ht)
  have hd' : DataW.trod (funcToken Tryd.prog) Tryd.prog W 0 (fun _ => true) true fuel 188 cs.toList = some (.agg [.held [40, 104, 97, 114, 117, 115, 112, 101, 120, 47, 104, 105, 100, 100, 101, 110, 46, 119, 97, 116, 99, 104, 101, 114, 41, 46, 117, 112], .held [40, 104, 97, 114, 117, 115, 112, 101, 120, 47, 104, 105, 100, 100, 101, 110, 46, 119, 97, 116, 99, 104, 101, 114, 41, 46, 100, 111, 119, 110]], p) := hd
  clear hd
  cases fuel with
  | zero => simp [DataW.trod] at hd'
  | succ fuel =>
    simp only [DataW.trod, Tryd.underlying188, cells187, Nat.mul_one] at hd'
    split at hd'
    · rename_i hl
      obtain ⟨xs, hm, hx⟩ := Option.map_eq_some_iff.1 hd'
      have hxs : xs.map (·.1) = [.held [40, 104, 97, 114, 117, 115, 112, 101, 120, 47, 104, 105, 100, 100, 101, 110, 46, 119, 97, 116, 99, 104, 101, 114, 41, 46, 117, 112], .held [40, 104, 97, 114, 117, 115, 112, 101, 120, 47, 104, 105, 100, 100, 101, 110, 46, 119, 97, 116, 99, 104, 101, 114, 41, 46, 100, 111, 119, 110]] := by
        have := congrArg Prod.fst hx
        injection this
      have hcl : cs.toList.length = 2 := by first | exact hl | (exact of_decide_eq_true hl) | simpa using hl
      obtain ⟨a, b, hab⟩ : ∃ a b, cs.toList = [a, b] := by
        match cs.toList, hcl with
        | [a, b], _ => exact ⟨a, b, rfl⟩
      rw [hab] at hm
      obtain ⟨y0, h0, r0⟩ := Lib.mapM_at hm 0 0 (by simp)
      obtain ⟨y1, h1, r1⟩ := Lib.mapM_at hm 1 1 (by simp)
      have e0 : (xs.map (·.1))[0]? = some y0.1 := by simp [h0]
      have e1 : (xs.map (·.1))[1]? = some y1.1 := by simp [h1]
      rw [hxs] at e0 e1
      simp only [List.getElem?_cons_zero, List.getElem?_cons_succ, Option.some.injEq] at e0 e1
      obtain ⟨y0a, y0b⟩ := y0
      obtain ⟨y1a, y1b⟩ := y1
      simp only at e0 e1
      subst e0; subst e1
      simp only [List.drop_zero, List.take_succ_cons, List.take_zero, List.drop_succ_cons] at r0 r1
      obtain rfl := func_of_trod (f0 := 43) Tryd.underlying187 (by kernel_rfl) r0
      obtain rfl := func_of_trod (f0 := 173) Tryd.underlying187 (by kernel_rfl) r1
      have c0 := World.var?_cell hg hv 0
      have c1 := World.var?_cell hg hv 1
      have hcs : cs = #[Value.func (.func 43) #[] #[], Value.func (.func 173) #[] #[]] := by
        apply Array.ext'
        exact hab
      rw [hcs] at c0 c1
      exact ⟨by simpa using c0, by simpa using c1⟩
    · cases hd'
theorem glob {W : World} (h : laidMetH Tryd.prog laidH W) : Go.Abs.GlobI (fun B o => W.cell? ⟨B, o, none⟩) := by
  obtain ⟨h0, h1⟩ := of_laid h
  refine ⟨fun μ g => ?_⟩
  by_cases hg : g = 0
  · subst hg
    exact .vptr (.cons (u := .func (.func 43) #[] #[]) h0 (.func .nil .nil) (.cons (u := .func (.func 173) #[] #[]) h1 (.func .nil .nil) .nil))
  · have : Go.Abs.gv g = .bad := by
      unfold Go.Abs.gv Go.Abs.gtab
      have e : (g == 0) = false := by simp [hg]
      simp only [List.lookup, e]
    rw [this]; exact .bad _
end Go.Proofs.YtbapeebnpnjaiaaDoor.GlobK
