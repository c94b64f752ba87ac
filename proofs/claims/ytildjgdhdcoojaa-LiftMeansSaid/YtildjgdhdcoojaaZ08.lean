/- Texts of the claim: SymLight5, SymFresh, SymHeap, SymFresh2, SymHeap2, SymHeavy, SymHeavy2, SymFrame, SymFn, SymCall, SymStep, SymExec, SymRun, SymAdopt2, SymApi. -/
import Derived.Test.YtildjgdhdcoojaaZ07
namespace Go.Sym
open Go Go.Abs
set_option linter.unusedVariables false
set_option linter.unusedSimpArgs false
section
variable {P : Program} {h : Heap} {H : Hid} {ρ : Env}

/-- The bounds of a slice expression. -/
inductive OptR (ρ : Env) : Option E → Option AV → Prop
  | none : OptR ρ none none
  | some {k : IntKind} {e : E} : OptR ρ (some e) (some (.int k (e.i ρ)))
theorem sOpt_rel {x : Tr SV} {y : Tr AV} (g : TmR P h H ρ x y) {o : Option Operand} {r : Option E} (e : sOpt x o = some r) : OptR ρ r (optEval y o) := by
  unfold sOpt at e
  cases o with
  | none => cases e; exact .none
  | some o =>
    simp only at e
    split at e
    · rename_i k e' hq
      cases e
      have := sEval_rel g o
      rw [hq] at this
      simp only [optEval]
      cases hh : evalOp y o with
      | int k' n => rw [hh] at this; cases this; exact .some
      | _ => rw [hh] at this; cases this
    · cases e
theorem idx_le {i : Int} {n : Nat} (h0 : 0 ≤ i) (h1 : i ≤ n) : idx i (n + 1) = some i.toNat := by
  obtain ⟨m, rfl⟩ : ∃ m : Nat, i = Int.ofNat m := ⟨i.toNat, by simp; omega⟩
  have : m ≤ n := by simpa using h1
  rw [idx_of (by omega)]; simp
theorem bounds_of {len : Nat} {lo hi : Option E} {alo ahi : Option AV} {n : E} (gl : OptR ρ lo alo) (gh : OptR ρ hi ahi) (hn : n.i ρ = len) (h0 : 0 ≤ (lo.getD (.il 0)).i ρ) (h1 : (lo.getD (.il 0)).i ρ ≤ (hi.getD n).i ρ) (h2 : (hi.getD n).i ρ ≤ len) :
    bounds len alo ahi = some (((lo.getD (.il 0)).i ρ).toNat, ((hi.getD n).i ρ).toNat) := by
  unfold bounds
  cases gh with
  | none =>
    simp only [Option.getD_none, hn] at h1 h2 ⊢
    cases gl with
    | none => simp [E.i]
    | some => simp only [Option.getD_some] at h0 h1 ⊢; rw [idx_le h0 h1]; simp
  | some =>
    simp only [Option.getD_some] at h1 h2 ⊢
    rw [idx_le (by omega) h2]
    simp only
    cases gl with
    | none => simp [E.i]
    | some => simp only [Option.getD_some] at h0 h1 ⊢; rw [idx_le h0 (by omega)]
theorem sslice_rel {h0 : Heap} {sh : SHeap} (R : HR P h0 h H ρ sh) {t : TypeId} {x v : SV} {u : AV} {lo hi : Option E} {alo ahi : Option AV} {l : List E} (g : SD P h H ρ x u) (gl : OptR ρ lo alo) (gh : OptR ρ hi ahi) (e : sslice P sh t x lo hi = some (v, l)) (hl : Holds ρ l) :
    ∃ r, aslice P h t u alo ahi = some r ∧ SD P h H ρ v r := by
  unfold sslice at e
  split at e
  · rename_i elem hu
    split at e
    · rename_i s et e0 p hs hp
      obtain ⟨het, e'⟩ := cond_ok e
      clear e
      have het := beq_tt het
      subst het
      cases e'
      rw [Holds.append, ask_holds, ask_holds, and'_b, le'_b, le'_b, le'_b, Bool.and_eq_true, leB_iff, leB_iff, leB_iff] at hl
      obtain ⟨⟨hl0, hl1⟩, hl2⟩ := hl
      have g' := pureOf_rel R g hp
      have hn := len'_i ρ e0
      rw [hn] at hl2
      change 0 ≤ (lo.getD (.il 0)).i ρ at hl0
      cases g' with
      | pure q1 q2 q3 q4 =>
        rw [hs] at q2; cases q2
        rcases q4 with ⟨h1, rfl⟩ | ⟨l0, h1, q4⟩
        · rw [h1] at hl2
          have hz : (hi.getD e0.len').i ρ ≤ 0 := hl2
          have hz0 : e0.len'.i ρ = (0 : Nat) := by rw [hn, h1]; rfl
          refine ⟨.nils, ?_, .pure (sz := s) ?_ hs q3 (.inl ⟨?_, rfl⟩)⟩
          · simp only [aslice, hu]
            rw [bounds_of (n := e0.len') gl gh hz0 hl0 hl1 hz]
            simp [hs]
          · simp [avOf, q1, subAV]
          · simp [E.v, h1, V.sub]
        · rw [h1] at hl2
          have hz0 : e0.len'.i ρ = (l0.length : Nat) := by rw [hn, h1]; rfl
          have hz : (hi.getD e0.len').i ρ ≤ (l0.length : Nat) := hl2
          have hb := bounds_of (n := e0.len') gl gh hz0 hl0 hl1 hz
          generalize hL : ((lo.getD (.il 0)).i ρ).toNat = L at hb
          generalize hM : ((hi.getD e0.len').i ρ).toNat = M at hb
          have hLM : L ≤ M := by omega
          have hMl : M ≤ l0.length := by omega
          have hv : (E.cut e0 (lo.getD (.il 0)) (hi.getD e0.len')).v ρ = .list ((l0.take M).drop L) := by
            simp [E.v, h1, V.sub, V.els, hL, hM]
          have hlen : ((l0.take M).drop L).length = M - L := by simp; omega
          rcases q4 with ⟨b, off, cs, rfl, hS, hg, hll, hp⟩ | ⟨cs, l', rfl, hp⟩
          · refine ⟨.slice b (off + L * s) (M - L) s, ?_, .pure (sz := s) ?_ hs q3 ?_⟩
            · simp only [aslice, hu, hb, hs, beq_self', cond_true]
            · simp [avOf, q1, subAV, hL, hM]
            · rw [hv]
              refine .inr ⟨_, rfl, .inl ⟨b, off + L * s, cs, by rw [hlen], hS, hg, ?_, ?_⟩⟩
              · rw [hlen]
                have : L * s + (M - L) * s = M * s := by rw [← Nat.add_mul]; congr 1; omega
                have : M * s ≤ l0.length * s := Nat.mul_le_mul_right _ hMl
                omega
              · rw [hlen]
                have := (hp.take M).drop L
                have e4 : List.drop (L * s) (List.take (M * s) (List.drop off cs)) = List.take ((M - L) * s) (List.drop (off + L * s) cs) := by
                  rw [List.drop_take, List.drop_drop, ← Nat.sub_mul]
                rw [List.take_take, Nat.min_eq_left (Nat.mul_le_mul_right _ hMl), e4] at this
                exact this
          · refine ⟨.vslice (cs.drop (L * s)) (M - L) s, ?_, .pure (sz := s) ?_ hs q3 ?_⟩
            · simp only [aslice, hu, hb, hs, beq_self', cond_true]
            · simp [avOf, q1, subAV, hL, hM]
            · rw [hv]
              refine .inr ⟨_, rfl, .inr ⟨_, l0.drop M ++ l', by rw [hlen], ?_⟩⟩
              have := hp.drop L
              have e3 : (l0 ++ l').drop L = (l0.take M).drop L ++ (l0.drop M ++ l') := by
                rw [List.drop_append_of_le_length (by omega), ← List.append_assoc]
                congr 1
                conv => lhs; rw [← List.take_append_drop M l0]
                rw [List.drop_append_of_le_length (by simp; omega)]
              rw [← e3]; exact this
    · cases e
  · cases e
theorem slen_rel {h0 : Heap} {sh : SHeap} (R : HR P h0 h H ρ sh) {t : TypeId} {x v : SV} {u : AV} (g : SD P h H ρ x u) (e : slen P sh t x = some v) : ∃ r, alen P h t u = some r ∧ SD P h H ρ v r := by
  unfold slen at e
  split at e
  · rename_i n et hu
    cases e
    exact ⟨.int .i64 n, by simp [alen, hu], .int .i64 (.il n)⟩
  · rename_i et hu
    split at e
    · cases e; cases g
      exact ⟨.int .i64 0, by simp [alen, hu], .int .i64 (.il 0)⟩
    · simp only [Option.map_eq_some_iff] at e
      obtain ⟨r, k, rfl⟩ := e
      obtain ⟨t', e0⟩ := r
      have hi : ∀ {n : Int}, e0.len'.i ρ = n → SD P h H ρ (.int .i64 e0.len') (.int .i64 n) := fun q => q ▸ .int _ _
      rcases listOf_rel R g k with ⟨q1, rfl⟩ | ⟨l, sz, q1, _, _, ⟨b, off, rfl⟩ | ⟨cs, rfl⟩, _⟩
      · exact ⟨.int .i64 0, by simp [alen, hu], hi (by rw [len'_i, q1]; rfl)⟩
      · exact ⟨.int .i64 l.length, by simp [alen, hu], hi (by rw [len'_i, q1]; rfl)⟩
      · exact ⟨.int .i64 l.length, by simp [alen, hu], hi (by rw [len'_i, q1]; rfl)⟩
  · cases e

/-- An operation that only reads. -/
theorem slight_rel {h0 : Heap} {sh : SHeap} (R : HR P h0 h H ρ sh) {pol : Pol} {fn : FuncId} {x : Tr SV} {y : Tr AV} (g : TmR P h H ρ x y) {o : Oper} {v : SV} {l : List E} (e : slight P pol fn sh x o = some (v, l)) (hl : Holds ρ l) :
    ∃ u, alight P h y o = some u ∧ SD P h H ρ v u := by
  have ev := fun o => sEval_rel g o
  have pl : ∀ {q : Option SV}, plain q = some (v, l) → q = some v := by
    intro q hq
    unfold plain at hq
    simp only [Option.map_eq_some_iff] at hq
    obtain ⟨v', h1, h2⟩ := hq
    cases h2; exact h1
  obtain ⟨dst, op, type, pos, after, guard⟩ := o
  unfold slight at e
  unfold alight
  simp only at e ⊢
  split at e
  · cases e; exact ⟨_, rfl, ev _⟩
  · cases e; exact ⟨_, rfl, ev _⟩
  · exact spick_rel (ev _) (ev _) (ev _) (pl e)
  · exact sbuild_rel (partsR_map g _) (pl e)
  · exact sload_rel R (ev _) e hl
  · exact sbin_rel R e (ev _) (ev _) hl
  · exact sun_rel e (ev _) hl
  · exact sconv_rel e (ev _) hl
  · split at e
    · rename_i hi; cases e; simp only [hi]; exact ⟨_, rfl, .iface (ev _)⟩
    · cases e
  · cases e; exact ⟨_, rfl, .func (SDs.map fun a _ => ev a) (SDs.map fun a _ => ev a)⟩
  · split at e
    · rename_i e1 e2; exact sslice_rel R (ev _) (sOpt_rel g e1) (sOpt_rel g e2) e hl
    · cases e
  · exact sfieldAddr_rel (ev _) (pl e)
  · exact sfield_rel (ev _) (pl e)
  · exact sindexAddr_rel R (ev _) (ev _) e hl
  · exact sindex_rel (ev _) (ev _) e
  · rename_i x' i
    split at e
    · rename_i vs hq
      have := ev x'
      rw [hq] at this
      cases hh : evalOp y x' with
      | tuple us =>
        rw [hh] at this
        cases this with
        | tuple q => obtain ⟨w, w1, w2⟩ := q.get (pl e); exact ⟨w, by simp only [hh]; exact w1, w2⟩
      | _ => rw [hh] at this; cases this
    · cases e
  · exact stypeAssert_rel (ev _) (pl e)
  · rename_i x'
    split at e
    · rename_i hq
      have := ev x'
      rw [hq] at this
      cases e
      cases hh : evalOp y x' with
      | ptr b o => rw [hh] at this; exact ⟨_, by simp only [hh], this⟩
      | _ => rw [hh] at this; cases this
    · rename_i hq
      have := ev x'
      rw [hq] at this
      cases e
      cases hh : evalOp y x' with
      | func b o c => rw [hh] at this; exact ⟨_, by simp only [hh], this⟩
      | _ => rw [hh] at this; cases this
    · rename_i hq
      have := ev x'
      rw [hq] at this
      cases e
      cases hh : evalOp y x' with
      | yieldf b => rw [hh] at this; exact ⟨_, by simp only [hh], this⟩
      | _ => rw [hh] at this; cases this
    · cases e
  · split at e
    · rename_i hargs
      simp only [hargs]
      split at e
      · rename_i ht; simp only [ht]; exact slen_rel R (ev _) (pl e)
      · cases e
    · rename_i hargs
      simp only [hargs]
      exact foldS_rel (fun a b c => smin_rel a b c) (SDs.map fun a _ => ev a) (ev _) (pl e)
    · rename_i hargs
      simp only [hargs]
      exact foldS_rel (fun a b c => smax_rel a b c) (SDs.map fun a _ => ev a) (ev _) (pl e)
    · cases e
  · cases e
end
end Go.Sym
/- The operations that make a block: sound. -/
namespace Go.Sym
open Go Go.Abs
set_option linter.unusedVariables false
set_option linter.unusedSimpArgs false
section
variable {P : Program} {h : Heap} {H : Hid} {ρ : Env} {h0 : Heap} {sh : SHeap}

theorem PV.fin : ∀ {d d' : Nat} {t : TypeId} {x : V} {cs : List AV} {S : Nat → Prop}, finT P d t = true → PV P h S d' t x cs → PV P h S d t x cs
  | 0, _, _, _, _, _, e, _ => by simp [finT] at e
  | d + 1, 0, _, _, _, _, _, g => g.elim
  | d + 1, d' + 1, t, x, cs, S, e, g => by
    obtain ⟨g0, g⟩ := g
    refine ⟨g0, ?_⟩
    unfold finT at e
    split at g
    · exact g
    · exact g
    · exact g
    · rename_i hu
      rw [hu] at e
      obtain ⟨av, sz, a, b, c, k⟩ := g
      exact ⟨av, sz, a, b, c, k.imp (fun _ _ q => PV.fin e q) fun b hb => ⟨hb, fun _ e => e⟩⟩
    · rename_i fields hu
      rw [hu] at e
      simp only [List.all_eq_true] at e
      obtain ⟨xs, a, b⟩ := g
      refine ⟨xs, a, ?_⟩
      generalize fields.toList = fs at e b
      have key : ∀ (fs : List Field) (pos : Nat) (xs : List V) (cs : List AV), (∀ f ∈ fs, finT P d f.type = true) → PFl P (PV P h S d') fs pos xs cs → PFl P (PV P h S d) fs pos xs cs := by
        intro fs
        induction fs with
        | nil => intro _ _ _ _ g; exact g
        | cons f fs ih =>
          intro pos xs cs hf g
          obtain ⟨x, ys, c, r, e1, e2, o, a, b⟩ := g
          exact ⟨x, ys, c, r, e1, e2, o, PV.fin (hf f (by simp)) a, ih _ _ _ (fun g hg => hf g (by simp [hg])) b⟩
      exact key _ _ _ _ e b
    · rename_i n et hu
      rw [hu] at e
      obtain ⟨xs, sz, a, b, c, k⟩ := g
      exact ⟨xs, sz, a, b, c, k.imp fun _ _ q => PV.fin e q⟩
    · exact g

theorem snoc_v {e y : E} {l : List V} (he : e.v ρ = .list l) : (E.snoc e y).v ρ = .list (l ++ [y.v ρ]) := by simp [E.v, he, V.snoc, V.els]

/-- The value of cells. -/
theorem valOf_rel (R : HR P h0 h H ρ sh) : ∀ {d : Nat} {t : TypeId} {svs : List SV} {cs : List AV} {e : E}, valOf P sh d t svs = some e → SDs P h H ρ svs cs → ∃ c r, cs = c ++ r ∧ PV P h H.S d t (e.v ρ) c := by
  intro d
  induction d with
  | zero => intro t svs cs e k; exact (Option.some_ne_none _ (k.symm.trans rfl)).elim
  | succ d ih =>
    intro t svs cs e k g
    unfold valOf at k
    split at k
    · cases k
    · rename_i n hn
      split at k
      · rename_i j hu
        split at k
        · obtain ⟨hc, k'⟩ := cond_ok k
          clear k
          simp only [Bool.and_eq_true, decide_eq_true_eq] at hc
          obtain ⟨h1, rfl⟩ := hc
          have h1 := beq_tt h1
          subst h1
          cases k'
          cases g with | cons g1 g2 =>
          cases g1
          exact ⟨[_], _, rfl, hn, by rw [hu]; exact ⟨_, rfl, rfl⟩⟩
        · cases k
      · rename_i hu
        split at k
        · obtain ⟨hc, k'⟩ := cond_ok k
          have h1 := beq_tt hc
          subst h1
          cases k'
          cases g with | cons g1 g2 =>
          cases g1
          exact ⟨[_], _, rfl, hn, by rw [hu]; exact ⟨_, rfl, rfl⟩⟩
        · cases k
      · rename_i hu
        split at k
        · obtain ⟨hc, k'⟩ := cond_ok k
          have h1 := beq_tt hc
          subst h1
          cases k'
          cases g with | cons g1 g2 =>
          cases g1 with | str q =>
          exact ⟨[_], _, rfl, hn, by rw [hu]; exact ⟨_, q, rfl⟩⟩
        · cases k
      · rename_i et hu
        obtain ⟨hc, k2⟩ := cond_ok k
        clear k
        simp only [Bool.and_eq_true] at hc
        have h1 := beq_tt hc.1
        subst h1
        split at k2
        · rename_i z hz
          have mk : ∀ {p : PA} {u : AV} {r : List AV} {e0 : E}, SD P h H ρ (.pure et e0 p) u → ∃ c r', u :: r = c ++ r' ∧ PV P h H.S (d + 1) t (e0.v ρ) c := by
            intro p u r e0 q
            cases q with
            | pure q1 q2 q3 q4 =>
              refine ⟨[u], r, rfl, hn, ?_⟩
              rw [hu]
              exact ⟨u, _, rfl, q2, q3, q4.imp (fun _ _ w => PV.fin hc.2 w) fun b hb => ⟨hb, fun _ e => e⟩⟩
          split at k2
          · cases k2
            cases g with | cons g1 g2 =>
            cases g1
            refine ⟨[_], _, rfl, hn, ?_⟩
            rw [hu]
            exact ⟨_, z + 1, rfl, hz, by omega, .inl ⟨rfl, rfl⟩⟩
          · obtain ⟨ht, k'⟩ := cond_ok k2
            clear k2
            have ht := beq_tt ht
            subst ht
            cases k'
            cases g with | cons g1 g2 => exact mk g1
          · split at k2
            · rename_i b _ t' e' n' hg
              obtain ⟨ht, k'⟩ := cond_ok k2
              clear k2
              have ht := beq_tt ht
              subst ht
              cases k'
              cases g with | cons g1 g2 => exact mk (pureOf_rel (p := .cell n' 0) R g1 (by simp [pureOf, hg]))
            · cases k2
          · cases k2
        · cases k2
      · rename_i fields hu
        obtain ⟨hc, k⟩ := cond_ok k
        simp only [Bool.and_eq_true, decide_eq_true_eq] at hc
        obtain ⟨ht, hlen⟩ := hc
        have hlen : n ≤ svs.length := Nat.le_of_ble_eq_true hlen
        have key : ∀ (fs : List Field) (pos : Nat) (e1 e2 : E) (l : List V), tight P fs pos = some n → e1.v ρ = .list l →
            fs.foldl (fun r f => match r, valOf P sh d f.type (svs.drop f.offset) with | some x, some y => some (.snoc x y) | _, _ => none) (some e1) = some e2 →
            ∃ m, e2.v ρ = .list (l ++ m) ∧ ∃ c r, cs.drop pos = c ++ r ∧ pos + c.length = n ∧ PFl P (PV P h H.S d) fs pos m c := by
          intro fs
          induction fs with
          | nil =>
            intro pos e1 e2 l ht he hf
            simp [tight] at ht
            simp at hf
            subst hf
            exact ⟨[], by simpa using he, [], _, rfl, by simpa using ht, rfl, rfl⟩
          | cons f fs ihf =>
            intro pos e1 e2 l ht he hf
            unfold tight at ht
            split at ht
            · rename_i s hs
              obtain ⟨ho, ht⟩ := cond_ok ht
              have ho := beq_tt ho
              rw [List.foldl_cons] at hf
              cases hv : valOf P sh d f.type (svs.drop f.offset) with
              | none =>
                rw [hv] at hf
                exfalso
                have : ∀ (gs : List Field), gs.foldl (fun r f => match r, valOf P sh d f.type (svs.drop f.offset) with | some x, some y => some (.snoc x y) | _, _ => none) none = (none : Option E) := by
                  intro gs; induction gs with
                  | nil => rfl
                  | cons g gs ih => rw [List.foldl_cons]; exact ih
                simp only at hf
                rw [this] at hf
                cases hf
              | some y =>
                rw [hv] at hf
                simp only at hf
                obtain ⟨c, r, w1, w2⟩ := ih hv (g.drop f.offset)
                have hl := w2.length
                rw [hs] at hl
                cases hl
                obtain ⟨m, m1, c', r', m2, m3, m4⟩ := ihf (pos + c.length) (.snoc e1 y) e2 _ ht (snoc_v he) hf
                refine ⟨y.v ρ :: m, by rw [m1]; simp, c ++ c', r', ?_, by simp; omega, ⟨_, _, c, c', rfl, rfl, ho, w2, m4⟩⟩
                rw [← ho] at m2 ⊢
                rw [← List.drop_drop, w1, List.drop_left' rfl] at m2
                rw [w1, m2, List.append_assoc]
            · cases ht
        obtain ⟨m, m1, c, r, m2, m3, m4⟩ := key _ _ _ _ [] ht rfl k
        refine ⟨c, r, by simpa using m2, by rw [hn, ← m3]; simp, ?_⟩
        rw [hu]
        exact ⟨m, by simpa using m1, m4⟩
      · rename_i m et hu
        split at k
        · rename_i s hs
          obtain ⟨hc, k⟩ := cond_ok k
          simp only [Bool.and_eq_true] at hc
          obtain ⟨ht, hlen⟩ := hc
          have ht := beq_tt ht
          have key : ∀ (q j : Nat) (e1 e2 : E) (l : List V), e1.v ρ = .list l →
              (List.range' j q).foldl (fun r j => match r, valOf P sh d et (svs.drop (j * s)) with | some x, some y => some (.snoc x y) | _, _ => none) (some e1) = some e2 →
              ∃ m, e2.v ρ = .list (l ++ m) ∧ m.length = q ∧ ∃ c r, cs.drop (j * s) = c ++ r ∧ c.length = q * s ∧ PRow s (PV P h H.S d et) m c := by
            intro q
            induction q with
            | zero =>
              intro j e1 e2 l he hf
              simp at hf
              subst hf
              exact ⟨[], by simpa using he, rfl, [], _, rfl, by simp, rfl⟩
            | succ q ihq =>
              intro j e1 e2 l he hf
              rw [List.range'_succ, List.foldl_cons] at hf
              cases hv : valOf P sh d et (svs.drop (j * s)) with
              | none =>
                rw [hv] at hf
                exfalso
                have : ∀ (gs : List Nat), gs.foldl (fun r j => match r, valOf P sh d et (svs.drop (j * s)) with | some x, some y => some (.snoc x y) | _, _ => none) none = (none : Option E) := by
                  intro gs; induction gs with
                  | nil => rfl
                  | cons g gs ih => rw [List.foldl_cons]; exact ih
                simp only at hf
                rw [this] at hf
                cases hf
              | some y =>
                rw [hv] at hf
                simp only at hf
                obtain ⟨c, r, w1, w2⟩ := ih hv (g.drop (j * s))
                have hl := w2.length
                rw [hs] at hl
                cases hl
                obtain ⟨m, m1, m5, c', r', m2, m3, m4⟩ := ihq (j + 1) (.snoc e1 y) e2 _ (snoc_v he) hf
                refine ⟨y.v ρ :: m, by rw [m1]; simp, by simp [m5], c ++ c', r', ?_, by simp [m3, Nat.succ_mul]; omega, ⟨c, c', rfl, rfl, w2, m4⟩⟩
                rw [Nat.succ_mul, ← List.drop_drop, w1, List.drop_left' rfl] at m2
                rw [w1, m2, List.append_assoc]
          rw [List.range_eq_range'] at k
          obtain ⟨l, m1, m5, c, r, m2, m3, m4⟩ := key m 0 _ _ [] rfl k
          refine ⟨c, r, by simpa using m2, by rw [hn, m3, ht], ?_⟩
          rw [hu]
          exact ⟨l, s, by simpa using m1, m5, hs, m4⟩
        · cases k
      · cases k
end
end Go.Sym
/- Changes of the heaps. -/
namespace Go.Sym
open Go Go.Abs
set_option linter.unusedVariables false
set_option linter.unusedSimpArgs false
section
variable {P : Program} {h : Heap} {H : Hid} {ρ : Env} {h0 : Heap} {sh : SHeap}

/-- The hidden parts may grow in what is frozen by blocks of the run alone. -/
def SGrow (h0 : Heap) (H H' : Hid) : Prop := ∀ a, H'.S a → H.S a ∨ h0.next ≤ a
theorem SGrow.refl (h0 : Heap) (H : Hid) : SGrow h0 H H := fun a h => .inl h
theorem SGrow.trans {H H' H'' : Hid} (x : SGrow h0 H H') (y : SGrow h0 H' H'') : SGrow h0 H H'' := fun a h => (y a h).elim (x a) .inr

theorem HR.nu_some (R : HR P h0 h H ρ sh) {b : Nat} {l : Loc} (e : H.ν b = some l) : b < sh.next := by
  apply Decidable.byContradiction
  intro q
  rw [R.nu_none b (by omega)] at e
  cases e
theorem HR.ka_lt (R : HR P h0 h H ρ sh) {n : Nat} (e : H.κ n ≠ []) : n < sh.ats := by
  apply Decidable.byContradiction
  intro q
  exact e (R.ka n (by omega))

/-- A slice of our own is not written any more. -/
theorem freeze1_rel (R : HR P h0 h H ρ sh) (x : SV) : ∃ H', HExt h H h H' ∧ HR P h0 h H' ρ (freeze1 sh x) ∧ SGrow h0 H H' := by
  unfold freeze1
  split
  · rename_i b
    split
    · rename_i t e ver hg
      have hats : ∀ (v : List AV), HExt h H h { H with κ := fun n => if n = sh.ats then v else H.κ n } := fun v =>
        ⟨fun _ _ e => e, fun n j av e => by
          simp only
          by_cases hn : n = sh.ats
          · subst hn; rw [R.ka _ (Nat.le_refl _)] at e; simp at e
          · rw [if_neg hn]; exact e, fun _ _ _ _ e => e, fun b hb => ⟨hb, fun _ e => e⟩⟩
      have ho := R.objs _ _ hg
      have hget : ∀ c o, ({ sh with ats := sh.ats + 1, t := sh.t.set b (.froz t e sh.ats) } : SHeap).get c = some o → if c = b then o = .froz t e sh.ats else sh.get c = some o := by
        intro c o he
        have : (sh.t.set b (.froz t e sh.ats)).get c = some o := he
        rw [Tr.get_set] at this
        split at this
        · rename_i hc; rw [if_pos hc]; cases this; rfl
        · rename_i hc; rw [if_neg hc]; exact this
      cases ho with
      | arr0 q1 q2 q3 q4 =>
        refine ⟨_, hats [.nils], ⟨?_, ?_, ?_, R.S_lt, R.next, R.keep, R.nu_none, R.nu_lt, ?_, R.kb, R.none_, ?_⟩, SGrow.refl _ _⟩
        · intro c o e
          have := hget c o e
          split at this
          · rename_i hc; subst hc; subst this; exact .froz0 q3 q4 q1 q2 (by simp)
          · refine ObjR.mono (hats _) (fun _ _ _ _ _ e => e) (fun _ _ _ _ => rfl) ?_ (R.objs _ _ this)
            intro n hn
            have := R.ka_lt hn
            simp only; rw [if_neg (by omega)]
        · intro c c' o o' l l' a e e' ow ow' n1 n2 l1 l2
          have g1 := hget c o e
          have g2 := hget c' o' e'
          split at g1
          · subst g1; cases ow
          · split at g2
            · subst g2; cases ow'
            · exact R.inj _ _ _ _ _ _ _ g1 g2 ow ow' n1 n2 l1 l2
        · intro c o l a e ow n1 l1
          have g1 := hget c o e
          split at g1
          · subst g1; cases ow
          · exact R.ownS _ _ _ _ g1 ow n1 l1
        · intro n hn
          have hn : sh.ats + 1 ≤ n := hn
          simp only; rw [if_neg (by omega)]; exact R.ka _ (by omega)
        · intro c o e
          have g1 := hget c o e
          split at g1
          · rename_i hc; subst hc; exact R.blk_lt _ _ hg
          · exact R.blk_lt _ _ g1
      | arr q1 q2 q3 q4 =>
        rename_i a len sz l acs
        have hown := R.ownS b _ _ a hg rfl q2 rfl
        have hx : HExt h H h { H with κ := fun n => if n = sh.ats then [.slice a 0 len sz] else H.κ n, S := fun c => H.S c ∨ c = a } :=
          ⟨fun _ _ e => e, (hats _).ka, fun _ _ _ _ e => e, fun b hb => ⟨.inl hb, fun _ e => e⟩⟩
        refine ⟨_, hx, ⟨?_, ?_, ?_, ?_, R.next, R.keep, R.nu_none, R.nu_lt, ?_, R.kb, R.none_, ?_⟩, ?_⟩
        · intro c o e
          have := hget c o e
          split at this
          · rename_i hc; subst hc; subst this; exact .froz q1 q2 (q3.mono hx q3.get) (.inr rfl) (by simp)
          · refine ObjR.mono hx (fun _ _ _ _ _ e => e) (fun _ _ _ _ => rfl) ?_ (R.objs _ _ this)
            intro n hn
            have := R.ka_lt hn
            simp only; rw [if_neg (by omega)]
        · intro c c' o o' l l' a' e e' ow ow' n1 n2 l1 l2
          have g1 := hget c o e
          have g2 := hget c' o' e'
          split at g1
          · subst g1; cases ow
          · split at g2
            · subst g2; cases ow'
            · exact R.inj _ _ _ _ _ _ _ g1 g2 ow ow' n1 n2 l1 l2
        · intro c o l a' e ow n1 l1
          have g1 := hget c o e
          split at g1
          · subst g1; cases ow
          · rename_i hc
            obtain ⟨w1, w2⟩ := R.ownS _ _ _ _ g1 ow n1 l1
            refine ⟨?_, w2⟩
            rintro (q | q)
            · exact w1 q
            · subst q
              exact hc (R.inj _ _ _ _ _ _ _ g1 hg ow rfl n1 q2 l1 rfl)
        · rintro c (q | q)
          · exact R.S_lt _ q
          · subst q; exact R.nu_lt _ _ _ q2 rfl
        · intro n hn
          have hn : sh.ats + 1 ≤ n := hn
          simp only; rw [if_neg (by omega)]; exact R.ka _ (by omega)
        · intro c o e
          have g1 := hget c o e
          split at g1
          · rename_i hc; subst hc; exact R.blk_lt _ _ hg
          · exact R.blk_lt _ _ g1
        · rintro c (q | q)
          · exact .inl q
          · subst q; exact .inr hown.2
    · exact ⟨H, HExt.refl _ _, R, SGrow.refl _ _⟩
  · exact ⟨H, HExt.refl _ _, R, SGrow.refl _ _⟩
theorem freezes_rel : ∀ (l : List SV) {sh : SHeap} {H : Hid}, HR P h0 h H ρ sh → ∃ H', HExt h H h H' ∧ HR P h0 h H' ρ (freezes sh l) ∧ SGrow h0 H H'
  | [], sh, H, R => ⟨H, HExt.refl _ _, R, SGrow.refl _ _⟩
  | x :: l, sh, H, R => by
    obtain ⟨H1, x1, R1, s1⟩ := freeze1_rel R x
    obtain ⟨H2, x2, R2, s2⟩ := freezes_rel l R1
    exact ⟨H2, x1.trans x2, R2, s1.trans s2⟩

/-- A new block. -/
noncomputable def Hid.new (H : Hid) (b : Nat) (l : Loc) (acs : List AV) : Hid :=
  { H with ν := fun c => if c = b then some l else H.ν c, κb := fun c v => if c = b ∧ v = b then acs else H.κb c v }
theorem new_ext (R : HR P h0 h H ρ sh) (l : Loc) (acs : List AV) {h' : Heap} (hk : ∀ c, H.S c → h'.get c = h.get c) : HExt h H h' (H.new sh.next l acs) :=
  ⟨fun b l' e => by
      simp only [Hid.new]
      rw [if_neg (by have := R.nu_some e; omega)]; exact e,
    fun _ _ _ e => e,
    fun b v j av e => by
      simp only [Hid.new]
      split
      · rename_i hc; obtain ⟨rfl, rfl⟩ := hc; rw [R.kb _ _ (Nat.le_refl _)] at e; simp at e
      · exact e,
    fun b hb => ⟨hb, fun _ e => by rw [hk b hb]; exact e⟩⟩
theorem HR.new (R : HR P h0 h H ρ sh) {o : SObj} {ob : AObj} {l : Loc} {acs : List AV} (hl : l.at = some h.next) (ho : HExt h H (h.new ob) (H.new sh.next l acs) → ObjR P (h.new ob) (H.new sh.next l acs) ρ sh.next o) :
    HExt h H (h.new ob) (H.new sh.next l acs) ∧ HR P h0 (h.new ob) (H.new sh.next l acs) ρ (sh.new o) := by
  have hx : HExt h H (h.new ob) (H.new sh.next l acs) := new_ext R l acs fun c hc => by
    rw [Heap.get_new, if_neg (by have := R.S_lt c hc; omega)]
  have old : ∀ {b : Nat} {o' : SObj}, sh.get b = some o' → b ≠ sh.next := fun e => by have := R.blk_lt _ _ e; omega
  refine ⟨hx, ⟨?_, ?_, ?_, ?_, ?_, ?_, ?_, ?_, R.ka, ?_, ?_, ?_⟩⟩
  · intro b o' e
    rw [SHeap.get_new] at e
    split at e
    · rename_i hb; subst hb; cases e; exact ho hx
    · refine ObjR.mono hx ?_ ?_ (fun _ _ => rfl) (R.objs _ _ e)
      · intro l' a n1 l1 ob' g
        rw [Heap.get_new, if_neg (by have := R.nu_lt _ _ _ n1 l1; omega)]; exact g
      · intro t e' ver he
        simp only [Hid.new]; rw [if_neg (fun q => old e q.1)]
  · intro b b' o1 o2 l1 l2 a e1 e2 w1 w2 n1 n2 a1 a2
    rw [SHeap.get_new] at e1 e2
    simp only [Hid.new] at n1 n2
    split at e1
    · rename_i hb
      rw [if_pos hb] at n1; cases n1
      rw [hl] at a1; cases a1
      split at e2
      · rename_i hb'; rw [hb, hb']
      · rename_i hb'
        rw [if_neg hb'] at n2
        have := R.nu_lt _ _ _ n2 a2; omega
    · rename_i hb
      rw [if_neg hb] at n1
      split at e2
      · rename_i hb'
        rw [if_pos hb'] at n2; cases n2
        rw [hl] at a2; cases a2
        have := R.nu_lt _ _ _ n1 a1; omega
      · rename_i hb'
        rw [if_neg hb'] at n2
        exact R.inj _ _ _ _ _ _ _ e1 e2 w1 w2 n1 n2 a1 a2
  · intro b o1 l1 a e1 w1 n1 a1
    rw [SHeap.get_new] at e1
    simp only [Hid.new] at n1 ⊢
    split at e1
    · rename_i hb
      rw [if_pos hb] at n1; cases n1
      rw [hl] at a1; cases a1
      exact ⟨fun q => by have := R.S_lt _ q; omega, R.next⟩
    · rename_i hb
      rw [if_neg hb] at n1
      exact R.ownS _ _ _ _ e1 w1 n1 a1
  · intro a ha; have := R.S_lt a ha; show a < h.next + 1; omega
  · show h0.next ≤ h.next + 1; have := R.next; omega
  · intro c hc
    rw [Heap.get_new, if_neg (by have := R.next; omega)]; exact R.keep c hc
  · intro b hb
    have hb : sh.next + 1 ≤ b := hb
    simp only [Hid.new]; rw [if_neg (by omega)]; exact R.nu_none _ (by omega)
  · intro b l1 a n1 a1
    simp only [Hid.new] at n1
    show a < h.next + 1
    split at n1
    · cases n1; rw [hl] at a1; cases a1; omega
    · have := R.nu_lt _ _ _ n1 a1; omega
  · intro b v hv
    have hv : sh.next + 1 ≤ v := hv
    simp only [Hid.new]; rw [if_neg (by omega)]; exact R.kb _ _ (by omega)
  · intro c hc
    have hc : h.next + 1 ≤ c := hc
    rw [Heap.get_new, if_neg (by omega)]; exact R.none_ _ (by omega)
  · intro b o' e
    show b < sh.next + 1
    rw [SHeap.get_new] at e
    split at e
    · omega
    · have := R.blk_lt _ _ e; omega
end
end Go.Sym
namespace Go.Sym
open Go Go.Abs
set_option linter.unusedVariables false
set_option linter.unusedSimpArgs false
section
variable {P : Program} {h : Heap} {H : Hid} {ρ : Env} {h0 : Heap} {sh : SHeap}

theorem PartsR.mono {h' : Heap} {H' : Hid} (x : HExt h H h' H') {a : List (Nat × SV)} {b : List (Nat × AV)} (g : PartsR P h H ρ a b) : PartsR P h' H' ρ a b := by
  induction g with
  | nil => exact .nil
  | cons a b ih => exact .cons (a.mono x) ih
theorem PartsR.length {a : List (Nat × SV)} {b : List (Nat × AV)} (g : PartsR P h H ρ a b) : a.length = b.length := by
  induction g with
  | nil => rfl
  | cons a b ih => simp [ih]
theorem listE_v : ∀ (l : List E), (listE l).v ρ = .list (l.map (E.v ρ)) := by
  have key : ∀ (l : List E) (e : E) (m : List V), e.v ρ = .list m → (l.foldl .snoc e).v ρ = .list (m ++ l.map (E.v ρ)) := by
    intro l
    induction l with
    | nil => intro e m he; simpa using he
    | cons x l ih => intro e m he; rw [List.foldl_cons, ih _ _ (snoc_v he)]; simp
  intro l
  exact key l .emp [] rfl
theorem repl_length (z : List AV) : ∀ n, (repl z n).length = n * z.length
  | 0 => by simp [repl]
  | n + 1 => by simp [repl, repl_length z n, Nat.succ_mul]; omega
theorem size_i {t : TypeId} {i : TypeInfo} (e : P.info? t = some i) : sizeT P t = some i.size := by simp [sizeT, e]

theorem parts_rel (R : HR P h0 h H ρ sh) {et : TypeId} {s : Nat} (hs : sizeT P et = some s) {z : List AV} (hz : z.length = s) : ∀ {ps : List (Nat × SV)} {qs : List (Nat × AV)} {j : Nat} {l : List E} {pre : List AV}, PartsR P h H ρ ps qs → partsE P sh et s j ps = some l → pre.length = j * s →
    ∃ cs, afill (fun i => some (i * s, s)) (pre ++ repl z ps.length) qs = some (pre ++ cs) ∧ PRow s (PV P h H.S deep et) (l.map (E.v ρ)) cs
  | [], _, j, l, pre, .nil, e, hp => by
    simp [partsE] at e; subst e
    exact ⟨[], by simp [afill, repl], rfl⟩
  | (i, v) :: ps, _, j, l, pre, .cons (u := u) (us := us) g1 g2, e, hp => by
    unfold partsE at e
    split at e
    · cases e
    · rename_i hv
      have hv' : v ≠ .bad := fun q => hv q
      obtain ⟨hc, e⟩ := cond_ok e
      simp only [Bool.and_eq_true] at hc
      have hi := beq_tt hc.1
      have hlen := beq_tt hc.2
      subst hi
      split at e
      · rename_i e1 l1 h1 h2
        cases e
        have c1 := g1.cells' hv'
        obtain ⟨c, r, w1, w2⟩ := valOf_rel R h1 c1
        have lc := w2.length
        rw [hs] at lc; cases lc
        have hr : r = [] := by
          have := c1.length
          rw [w1] at this
          simp at this
          exact List.length_eq_zero_iff.1 (by omega)
        subst hr
        rw [List.append_nil] at w1
        have hu := g1.notBad hv'
        obtain ⟨cs, k1, k2⟩ := parts_rel R hs hz (pre := pre ++ c) g2 h2 (by simp [hp, Nat.succ_mul])
        refine ⟨c ++ cs, ?_, ⟨c, cs, rfl, rfl, w2, k2⟩⟩
        have hsp : splice (pre ++ repl z ((i, v) :: ps).length) (i * c.length) u.cells = pre ++ c ++ repl z ps.length := by
          unfold splice
          rw [w1, ← hp, List.take_left' rfl, ← List.drop_drop, List.drop_left' rfl]
          simp only [List.length_cons, repl]
          rw [← hz, List.drop_left' rfl]
        have hfit : (Nat.beq u.cells.length c.length && Nat.ble (i * c.length + u.cells.length) (pre ++ repl z ((i, v) :: ps).length).length) = true := by
          simp only [Bool.and_eq_true]
          refine ⟨by rw [w1]; simp, ?_⟩
          rw [Nat.ble_eq, w1, List.length_append, repl_length, hp, hz]
          simp [Nat.succ_mul]
        unfold afill
        cases u <;> first | exact absurd rfl hu | skip
        all_goals
          simp only
          rw [hfit, cond_true, hsp, k1, List.append_assoc]
      · cases e

theorem sfresh_rel (R : HR P h0 h H ρ sh) {x : Tr SV} {y : Tr AV} (g : TmR P h H ρ x y) {o : Oper} {v : SV} {l : List E} {sh' : SHeap} (e : sfresh P sh x o = some (sh', v, l)) (hl : Holds ρ l) :
    ∃ ob u H', alight P h y o = none ∧ afresh P h.next y o = some (ob, u) ∧ HExt h H (h.new ob) H' ∧ HR P h0 (h.new ob) H' ρ sh' ∧ SD P (h.new ob) H' ρ v u ∧ SGrow h0 H H' := by
  obtain ⟨dst, op, type, pos, after, guard⟩ := o
  unfold sfresh at e
  simp only at e
  -- a block of cells
  have cells : ∀ {z : SV} {u : AV}, SD P h H ρ z u → z ≠ .bad → z.cells.all SV.one = true → u.cells.all AV.one = true ∧ ∃ H', HExt h H (h.new (.cells u.cells)) H' ∧ HR P h0 (h.new (.cells u.cells)) H' ρ (sh.new (.cells z.cells)) ∧ SD P (h.new (.cells u.cells)) H' ρ (.addr sh.next 0) (.ptr h.next 0) ∧ SGrow h0 H H' := by
    intro z u gz hb hall
    have c1 := gz.cells' hb
    refine ⟨c1.one hall, H.new sh.next (.cells h.next) [], ?_⟩
    obtain ⟨x1, R1⟩ := R.new (o := .cells z.cells) (ob := .cells u.cells) (l := .cells h.next) (acs := []) rfl (fun x => .cells (a := h.next) (by simp [Hid.new]) (by rw [Heap.get_new]; simp) (c1.mono x))
    exact ⟨x1, R1, .addr (by simp [Hid.new]), fun a ha => .inl ha⟩
  split at e
  · -- alloc
    rename_i t
    split at e
    · rename_i z hz
      obtain ⟨hall, e⟩ := cond_ok e
      cases e
      obtain ⟨u, z1, z2⟩ := szero_rel (h := h) (H := H) (ρ := ρ) hz
      have hb : z ≠ .bad := by
        intro q; subst q; simp [SV.cells, SV.one] at hall
      obtain ⟨c1, H', x1, R1, s1, g1⟩ := cells z2 hb hall
      exact ⟨_, _, H', rfl, by simp only [afresh, z1, c1, cond_true], x1, R1, s1, g1⟩
    · cases e
  · -- box
    rename_i t a
    have ha := sEval_rel g a
    split at e
    · cases e
    · rename_i hb
      obtain ⟨hall, e⟩ := cond_ok e
      cases e
      have hb' : sEval x a ≠ .bad := fun q => hb q
      obtain ⟨c1, H', x1, R1, s1, g1⟩ := cells ha hb' hall
      have hu := ha.notBad hb'
      refine ⟨_, _, H', rfl, ?_, x1, R1, s1, g1⟩
      simp only [afresh]
      cases hq : evalOp y a <;> rw [hq] at c1 hu <;> first | exact absurd rfl hu | simp only [c1, cond_true]
  · -- a literal
    rename_i t len parts
    split at e
    · rename_i et hu
      split at e
      · rename_i s z hs hz
        obtain ⟨hc, e⟩ := cond_ok e
        simp only [Bool.and_eq_true] at hc
        obtain ⟨⟨⟨⟨c1, c2⟩, c3⟩, c4⟩, c5⟩ := hc
        split at e
        · rename_i es hes
          cases e
          obtain ⟨H1, x1, R1, s1⟩ := freezes_rel (P := P) ((List.map (fun p => (p.1, sEval x p.2)) parts.toList).flatMap fun p => p.2.cells) R
          obtain ⟨u, z1, z2⟩ := szero_rel (h := h) (H := H) (ρ := ρ) hz
          have hb : z ≠ .bad := by
            intro q; subst q; simp [SV.cells, SV.one] at c5
          have zc := z2.cells' hb
          have zl : u.cells.length = s := by rw [← zc.length]; exact beq_tt c1
          have pr := (partsR_map g parts.toList).mono x1
          obtain ⟨cs, k1, k2⟩ := parts_rel R1 hs zl (pre := []) pr hes (by simp)
          have hlen : (List.map (fun p => (p.1, sEval x p.2)) parts.toList).length = len := beq_tt c4
          rw [hlen] at k1
          simp only [List.nil_append] at k1
          have cl := k2.length
          have el : es.length = len := by
            have : ∀ {ps : List (Nat × SV)} {j : Nat} {l : List E}, partsE P (freezes sh ((List.map (fun p => (p.1, sEval x p.2)) parts.toList).flatMap fun p => p.2.cells)) et s j ps = some l → l.length = ps.length := by
              intro ps
              induction ps with
              | nil => intro j l q; simp [partsE] at q; subst q; rfl
              | cons p ps ih =>
                intro j l q
                obtain ⟨i, v⟩ := p
                unfold partsE at q
                split at q
                · cases q
                · obtain ⟨_, q⟩ := cond_ok q
                  split at q
                  · rename_i q1 q2
                    cases q
                    simp [ih q2]
                  · cases q
            rw [this hes, hlen]
          have call : cs.all AV.one = true := by
            rw [List.all_eq_true]
            exact k2.all fun _ _ q => q.cell
          rw [List.length_map, el] at cl
          generalize hsh1 : freezes sh ((List.map (fun p => (p.1, sEval x p.2)) parts.toList).flatMap fun p => p.2.cells) = sh1 at R1 ⊢
          obtain ⟨x2, R2⟩ := R1.new (o := .arr et (listE es) sh1.next) (ob := .cells cs) (l := .blk h.next len s) (acs := cs) rfl
            (fun x => .arr (a := h.next) (len := len) (sz := s) (l := es.map (E.v ρ)) (listE_v es) (by simp [Hid.new]) ⟨hs, by simpa [Nat.blt_eq] using c2, by simp [el], by rw [Heap.get_new]; simp, k2.imp fun _ _ q => q.mono x.kept⟩ (by simp [Hid.new]))
          refine ⟨.cells cs, .slice h.next 0 len s, _, rfl, ?_, x1.trans x2, R2, .view (by simp [Hid.new]), s1.trans fun a ha => .inl ha⟩
          simp only [afresh, hu, hs, z1]
          have e1 : (Nat.beq u.cells.length s && Nat.blt 0 s && Nat.ble (len * s) 16777216 && u.cells.all AV.one) = true := by
            simp only [Bool.and_eq_true]
            exact ⟨⟨⟨by rw [zl]; simp, c2⟩, c3⟩, zc.one c5⟩
          rw [e1, cond_true, k1]
          simp [call]
        · cases e
      · cases e
    · cases e
  · -- make
    rename_i t ln cp
    split at e
    · rename_i et hu
      split at e
      · rename_i i z k1 m k2 n hi hz hm hn
        obtain ⟨hc, e⟩ := cond_ok e
        simp only [Bool.and_eq_true, decide_eq_true_eq] at hc
        obtain ⟨⟨⟨⟨c1, c2⟩, c3⟩, c4⟩, c5⟩ := hc
        subst c4
        split at e
        · rename_i ze hze
          cases e
          rw [ask_holds, and'_b, le'_b, le'_b, Bool.and_eq_true, leB_iff, leB_iff] at hl
          obtain ⟨l1, l2⟩ := hl
          change 0 ≤ m.i ρ at l1
          change m.i ρ ≤ Int.ofNat (140737488355328 / i.bytes) at l2
          obtain ⟨u, z1, z2⟩ := szero_rel (h := h) (H := H) (ρ := ρ) hz
          have hb : z ≠ .bad := by
            intro q; subst q; simp [SV.cells, SV.one] at c5
          have zc := z2.cells' hb
          obtain ⟨c, r, w1, w2⟩ := valOf_rel R hze zc
          have lc := w2.length
          rw [size_i hi] at lc
          have hlz : u.cells.length = i.size := by rw [← zc.length]; exact beq_tt c1
          have hr : r = [] := by
            rw [w1] at hlz
            simp at hlz
            simp at lc
            exact List.length_eq_zero_iff.1 (by omega)
          subst hr
          rw [List.append_nil] at w1
          obtain ⟨N, hN⟩ : ∃ N : Nat, m.i ρ = Int.ofNat N := ⟨(m.i ρ).toNat, by simp; omega⟩
          have hNb : N ≤ 140737488355328 / i.bytes := by rw [hN] at l2; exact Int.ofNat_le.1 l2
          have hbp : 0 < i.bytes := by simpa [Nat.blt_eq] using c3
          have hmul : N * i.bytes ≤ 140737488355328 := Nat.le_trans (Nat.mul_le_mul_right _ hNb) (Nat.div_mul_le_self _ _)
          have hNs : N ≤ 140737488355328 := Nat.le_trans (Nat.le_mul_of_pos_right N hbp) hmul
          have hsz : sizeT P et = some i.size := size_i hi
          have row : PRow i.size (PV P h H.S deep et) (List.replicate N (ze.v ρ)) (repl u.cells N) := by
            rw [w1]; exact PRow.replicate (by simpa using lc.symm) w2 N
          obtain ⟨x2, R2⟩ := R.new (o := .arr et (.rep m ze) sh.next) (ob := .cells (repl u.cells N)) (l := .blk h.next N i.size) (acs := repl u.cells N) rfl
            (fun x => .arr (a := h.next) (len := N) (sz := i.size) (l := List.replicate N (ze.v ρ)) (by simp [E.v, V.rep, hN]) (by simp [Hid.new]) ⟨hsz, by simpa [Nat.blt_eq] using c2, by simp, by rw [Heap.get_new]; simp, row.imp fun _ _ q => q.mono x.kept⟩ (by simp [Hid.new]))
          refine ⟨.cells (repl u.cells N), .slice h.next 0 N i.size, _, rfl, ?_, x2, R2, .view (by simp [Hid.new]), fun a ha => .inl ha⟩
          have em := sEval_rel g ln
          have ec := sEval_rel g cp
          rw [hm] at em
          rw [hn] at ec
          have em' : evalOp y ln = .int k1 (.ofNat N) := by
            cases hq : evalOp y ln <;> rw [hq] at em <;> cases em
            rw [hN]
          have ec' : evalOp y cp = .int k2 (.ofNat N) := by
            cases hq : evalOp y cp <;> rw [hq] at ec <;> cases ec
            rw [hN]
          simp only [afresh, hu, hi, z1, em', ec']
          have e1 : (Nat.beq u.cells.length i.size && Nat.blt 0 i.size && Nat.beq N N && Nat.ble (N * i.bytes) 140737488355328 && Nat.ble N 4611686018427387904 && u.cells.all AV.one) = true := by
            simp only [Bool.and_eq_true]
            refine ⟨⟨⟨⟨⟨by rw [hlz]; simp, c2⟩, by simp⟩, by rw [Nat.ble_eq]; exact hmul⟩, by rw [Nat.ble_eq]; omega⟩, ?_⟩
            rw [List.all_eq_true, w1]
            exact w2.cell
          rw [e1, cond_true]
        · cases e
      · cases e
    · cases e
  · cases e
end
end Go.Sym
namespace Go.Sym
open Go Go.Abs
set_option linter.unusedVariables false
set_option linter.unusedSimpArgs false
section
variable {P : Program} {h : Heap} {H : Hid} {ρ : Env} {h0 : Heap} {sh : SHeap}

/-- A block is forgotten. -/
theorem HR.killS (R : HR P h0 h H ρ sh) (b : Nat) : HR P h0 h H ρ (sh.kill b) := by
  have hk : ∀ {c : Nat} {o : SObj}, (sh.kill b).get c = some o → sh.get c = some o := by
    intro c o e
    rw [SHeap.get_kill] at e
    split at e
    · cases e
    · exact e
  exact ⟨fun c o e => R.objs _ _ (hk e), fun _ _ _ _ _ _ _ e e' => R.inj _ _ _ _ _ _ _ (hk e) (hk e'), fun _ _ _ _ e => R.ownS _ _ _ _ (hk e), R.S_lt, R.next, R.keep, R.nu_none, R.nu_lt, R.ka, R.kb, R.none_, fun _ _ e => R.blk_lt _ _ (hk e)⟩
/-- A block of the run that no object has is dropped. -/
theorem HR.killA (R : HR P h0 h H ρ sh) {a : Nat} (hS : ¬ H.S a) (hb : h0.next ≤ a) (hno : ∀ c o l, sh.get c = some o → H.ν c = some l → l.at = some a → False) : HExt h H (h.kill a) H ∧ HR P h0 (h.kill a) H ρ sh := by
  have hx : HExt h H (h.kill a) H := ⟨fun _ _ e => e, fun _ _ _ e => e, fun _ _ _ _ e => e, fun c hc => ⟨hc, fun _ e => by
    rw [Heap.get_kill, if_neg (fun q => by subst q; exact hS hc)]; exact e⟩⟩
  refine ⟨hx, ⟨?_, R.inj, R.ownS, R.S_lt, R.next, ?_, R.nu_none, R.nu_lt, R.ka, R.kb, ?_, R.blk_lt⟩⟩
  · intro c o e
    refine ObjR.mono hx ?_ (fun _ _ _ _ => rfl) (fun _ _ => rfl) (R.objs _ _ e)
    intro l a' n1 l1 ob g
    rw [Heap.get_kill, if_neg (fun q => by subst q; exact hno _ _ _ e n1 l1)]; exact g
  · intro c hc
    rw [Heap.get_kill, if_neg (by omega)]; exact R.keep c hc
  · intro c hc
    rw [Heap.get_kill]; split
    · rfl
    · exact R.none_ c hc
/-- A new name. -/
theorem HR.alias (R : HR P h0 h H ρ sh) {o : SObj} {l : Loc} {acs : List AV} (hno : ∀ a, l.at = some a → ¬ H.S a ∧ h0.next ≤ a ∧ a < h.next ∧ ∀ c o l', sh.get c = some o → own o = true → H.ν c = some l' → l'.at = some a → False) (ho : HExt h H h (H.new sh.next l acs) → ObjR P h (H.new sh.next l acs) ρ sh.next o) :
    HExt h H h (H.new sh.next l acs) ∧ HR P h0 h (H.new sh.next l acs) ρ (sh.new o) := by
  have hx : HExt h H h (H.new sh.next l acs) := new_ext R l acs fun c hc => rfl
  have old : ∀ {b : Nat} {o' : SObj}, sh.get b = some o' → b ≠ sh.next := fun e => by have := R.blk_lt _ _ e; omega
  refine ⟨hx, ⟨?_, ?_, ?_, R.S_lt, R.next, R.keep, ?_, ?_, R.ka, ?_, R.none_, ?_⟩⟩
  · intro b o' e
    rw [SHeap.get_new] at e
    split at e
    · rename_i hb; subst hb; cases e; exact ho hx
    · refine ObjR.mono hx (fun _ _ _ _ _ g => g) ?_ (fun _ _ => rfl) (R.objs _ _ e)
      intro t e' ver he
      simp only [Hid.new]; rw [if_neg (fun q => old e q.1)]
  · intro b b' o1 o2 l1 l2 a e1 e2 w1 w2 n1 n2 a1 a2
    rw [SHeap.get_new] at e1 e2
    simp only [Hid.new] at n1 n2
    split at e1
    · rename_i hb
      rw [if_pos hb] at n1; cases n1
      split at e2
      · rename_i hb'; rw [hb, hb']
      · rename_i hb'
        rw [if_neg hb'] at n2
        exact ((hno _ a1).2.2.2 _ _ _ e2 w2 n2 a2).elim
    · rename_i hb
      rw [if_neg hb] at n1
      split at e2
      · rename_i hb'
        rw [if_pos hb'] at n2; cases n2
        exact ((hno _ a2).2.2.2 _ _ _ e1 w1 n1 a1).elim
      · rename_i hb'
        rw [if_neg hb'] at n2
        exact R.inj _ _ _ _ _ _ _ e1 e2 w1 w2 n1 n2 a1 a2
  · intro b o1 l1 a e1 w1 n1 a1
    rw [SHeap.get_new] at e1
    simp only [Hid.new] at n1 ⊢
    split at e1
    · rename_i hb
      rw [if_pos hb] at n1; cases n1
      exact ⟨(hno _ a1).1, (hno _ a1).2.1⟩
    · rename_i hb
      rw [if_neg hb] at n1
      exact R.ownS _ _ _ _ e1 w1 n1 a1
  · intro b hb
    have hb : sh.next + 1 ≤ b := hb
    simp only [Hid.new]; rw [if_neg (by omega)]; exact R.nu_none _ (by omega)
  · intro b l1 a n1 a1
    simp only [Hid.new] at n1
    split at n1
    · cases n1; exact (hno _ a1).2.2.1
    · exact R.nu_lt _ _ _ n1 a1
  · intro b v hv
    have hv : sh.next + 1 ≤ v := hv
    simp only [Hid.new]; rw [if_neg (by omega)]; exact R.kb _ _ (by omega)
  · intro b o' e
    show b < sh.next + 1
    rw [SHeap.get_new] at e
    split at e
    · omega
    · have := R.blk_lt _ _ e; omega

/-- An object is written. -/
noncomputable def Hid.ver (H : Hid) (b v : Nat) (acs : List AV) : Hid := { H with κb := fun c w => if c = b ∧ w = v then acs else H.κb c w }
theorem HR.upd (R : HR P h0 h H ρ sh) {b a : Nat} {o0 o : SObj} {l : Loc} {ob : AObj} {acs : List AV} {sh' : SHeap} (hg : sh.get b = some o0) (hown : own o0 = true) (ho1 : own o = true) (hn : H.ν b = some l) (hl : l.at = some a) (ht : sh'.t = sh.t.set b o) (hats : sh'.ats = sh.ats) (hnx : (acs = [] ∧ sh'.next = sh.next) ∨ sh'.next = sh.next + 1)
    (ho : HExt h H (h.set a ob) (H.ver b sh.next acs) → ObjR P (h.set a ob) (H.ver b sh.next acs) ρ b o) :
    HExt h H (h.set a ob) (H.ver b sh.next acs) ∧ HR P h0 (h.set a ob) (H.ver b sh.next acs) ρ sh' := by
  obtain ⟨hS, hbase⟩ := R.ownS _ _ _ _ hg hown hn hl
  have hlt := R.nu_lt _ _ _ hn hl
  have hx : HExt h H (h.set a ob) (H.ver b sh.next acs) := ⟨fun _ _ e => e, fun _ _ _ e => e, fun c v j av e => by
      simp only [Hid.ver]
      split
      · rename_i hc; obtain ⟨rfl, rfl⟩ := hc; rw [R.kb _ _ (Nat.le_refl _)] at e; simp at e
      · exact e, fun c hc => ⟨hc, fun _ e => by rw [Heap.get_set, if_neg (fun q => by subst q; exact hS hc)]; exact e⟩⟩
  have hget : ∀ {c : Nat} {o' : SObj}, sh'.get c = some o' → (c = b ∧ o' = o) ∨ (c ≠ b ∧ sh.get c = some o') := by
    intro c o' e
    have : (sh.t.set b o).get c = some o' := by rw [← ht]; exact e
    rw [Tr.get_set] at this
    split at this
    · rename_i hc; cases this; exact .inl ⟨hc, rfl⟩
    · rename_i hc; exact .inr ⟨hc, this⟩
  have hnext : sh.next ≤ sh'.next := by rcases hnx with ⟨_, q⟩ | q <;> omega
  refine ⟨hx, ⟨?_, ?_, ?_, R.S_lt, R.next, ?_, ?_, R.nu_lt, by rw [hats]; exact R.ka, ?_, ?_, ?_⟩⟩
  · intro c o' e
    rcases hget e with ⟨rfl, rfl⟩ | ⟨hc, e⟩
    · exact ho hx
    · by_cases hw : own o' = true
      · refine ObjR.mono hx ?_ ?_ (fun _ _ => rfl) (R.objs _ _ e)
        · intro l' a' n1 l1 ob' g
          rw [Heap.get_set, if_neg (fun q => by subst q; exact hc (R.inj _ _ _ _ _ _ _ e hg hw hown n1 hn l1 hl))]; exact g
        · intro t e' ver he
          simp only [Hid.ver]; rw [if_neg (fun q => hc q.1)]
      · have ho' := R.objs _ _ e
        cases ho' with
        | froz0 q1 q2 q3 q4 q5 => exact .froz0 q1 q2 q3 q4 q5
        | froz q1 q2 q3 q4 q5 => exact .froz q1 q2 (q3.mono hx ((hx.kept _ q4).2 _ q3.get)) q4 q5
        | _ => exact absurd rfl hw
  · intro c c' o1 o2 l1 l2 a' e1 e2 w1 w2 n1 n2 a1 a2
    have e1' : ∃ o, sh.get c = some o ∧ own o = true := by
      rcases hget e1 with ⟨rfl, rfl⟩ | ⟨_, e⟩
      · exact ⟨_, hg, hown⟩
      · exact ⟨_, e, w1⟩
    have e2' : ∃ o, sh.get c' = some o ∧ own o = true := by
      rcases hget e2 with ⟨rfl, rfl⟩ | ⟨_, e⟩
      · exact ⟨_, hg, hown⟩
      · exact ⟨_, e, w2⟩
    obtain ⟨p1, e1, w1⟩ := e1'
    obtain ⟨p2, e2, w2⟩ := e2'
    exact R.inj _ _ _ _ _ _ _ e1 e2 w1 w2 n1 n2 a1 a2
  · intro c o1 l1 a' e1 w1 n1 a1
    rcases hget e1 with ⟨rfl, rfl⟩ | ⟨_, e⟩
    · exact R.ownS _ _ _ _ hg hown n1 a1
    · exact R.ownS _ _ _ _ e w1 n1 a1
  · intro c hc
    rw [Heap.get_set, if_neg (by omega)]; exact R.keep c hc
  · intro c hc; exact R.nu_none c (by omega)
  · intro c v hv
    simp only [Hid.ver]
    split
    · rename_i hc
      rcases hnx with ⟨q, _⟩ | q
      · exact q
      · omega
    · exact R.kb _ _ (by omega)
  · intro c hc
    have hc : h.next ≤ c := hc
    rw [Heap.get_set, if_neg (by omega)]; exact R.none_ c hc
  · intro c o' e
    rcases hget e with ⟨rfl, rfl⟩ | ⟨_, e⟩
    · have := R.blk_lt _ _ hg; omega
    · have := R.blk_lt _ _ e; omega
end
end Go.Sym
/- The other operations: sound. -/
namespace Go.Sym
open Go Go.Abs
set_option linter.unusedVariables false
set_option linter.unusedSimpArgs false
section
variable {P : Program} {h : Heap} {H : Hid} {ρ : Env} {h0 : Heap} {sh : SHeap}

theorem fieldAt_get : ∀ {fs : List Field} {off j k : Nat} {f : Field}, fieldAt fs off j = some (k, f) → j ≤ k ∧ fs[k - j]? = some f ∧ f.offset = off
  | [], _, _, _, _, e => by simp [fieldAt] at e
  | g :: fs, off, j, k, f, e => by
    unfold fieldAt at e
    cases hb : Nat.beq g.offset off with
    | true =>
      rw [hb] at e
      simp at e
      obtain ⟨rfl, rfl⟩ := e
      exact ⟨Nat.le_refl _, by simp, beq_tt hb⟩
    | false =>
      rw [hb] at e
      obtain ⟨h1, h2, h3⟩ := fieldAt_get e
      refine ⟨by omega, ?_, h3⟩
      rw [show k - j = (k - (j + 1)) + 1 from by omega]
      simpa using h2
theorem PFl.set {R : TypeId → V → List AV → Prop} {x : V} {v : List AV} (hR : ∀ t x c, R t x c → sizeT P t = some c.length) : ∀ {fs : List Field} {pos : Nat} {xs : List V} {cs : List AV}, PFl P R fs pos xs cs → ∀ (i : Nat) (f : Field), fs[i]? = some f → R f.type x v → PFl P R fs pos (xs.set i x) (splice cs (f.offset - pos) v) ∧ (splice cs (f.offset - pos) v).length = cs.length
  | [], _, _, _, _, i, f, e, _ => by simp at e
  | g :: fs, pos, _, _, ⟨y, ys, c, r, rfl, rfl, ho, ga, gb⟩, 0, f, e, hx => by
    simp at e; subst e
    have hl : v.length = c.length := by
      have h1 := hR _ _ _ ga; have h2 := hR _ _ _ hx
      rw [h1] at h2; simpa using h2.symm
    have : splice (c ++ r) (g.offset - pos) v = v ++ r := by
      rw [ho, Nat.sub_self]; simp [splice, hl]
    rw [this]
    exact ⟨⟨x, ys, v, r, rfl, rfl, ho, hx, by rw [hl]; exact gb⟩, by simp [hl]⟩
  | g :: fs, pos, _, _, ⟨y, ys, c, r, rfl, rfl, ho, ga, gb⟩, i + 1, f, e, hx => by
    have hf : fs[i]? = some f := by simpa using e
    obtain ⟨k1, k2⟩ := PFl.set hR gb i f hf hx
    obtain ⟨_, _, _, _, hle, _⟩ := gb.get i f hf
    have : splice (c ++ r) (f.offset - pos) v = c ++ splice r (f.offset - (pos + c.length)) v := by
      unfold splice
      rw [List.take_append, List.take_of_length_le (by omega), show f.offset - pos - c.length = f.offset - (pos + c.length) from by omega]
      rw [show f.offset - pos + v.length = c.length + (f.offset - (pos + c.length) + v.length) from by omega, ← List.drop_drop, List.drop_left' rfl]
      simp
    rw [this]
    exact ⟨⟨y, _, c, _, rfl, rfl, ho, ga, k1⟩, by simp [k2]⟩

/-- A part of an element is written. -/
theorem setPart_rel {S : Nat → Prop} {et t : TypeId} {e x y : E} {off : Nat} {c v : List AV} (k : setPart P et e off t x = some y) (gc : PV P h S deep et (e.v ρ) c) (gv : PV P h S 11 t (x.v ρ) v) (hv0 : 0 < v.length) : off + v.length ≤ c.length ∧ PV P h S deep et (y.v ρ) (splice c off v) ∧ (splice c off v).length = c.length := by
  unfold setPart at k
  cases hb : (Nat.beq off 0 && Nat.beq t et) with
  | true =>
    rw [hb] at k
    simp at k; subst k
    simp only [Bool.and_eq_true] at hb
    have h1 := beq_tt hb.1; have h2 := beq_tt hb.2
    subst h1; subst h2
    have l1 := gc.length; have l2 := gv.length
    rw [l1] at l2
    have l3 : c.length = v.length := by simpa using l2
    have : splice c 0 v = v := by unfold splice; simp [← l3]
    rw [this]
    exact ⟨by omega, gv.more, l3.symm⟩
  | false =>
    rw [hb] at k
    simp only [cond_false] at k
    split at k
    · rename_i fields hu
      split at k
      · rename_i j f hf
        obtain ⟨ht, k'⟩ := cond_ok k
        have ht := beq_tt ht
        cases k'
        obtain ⟨_, h2, h3⟩ := fieldAt_get hf
        rw [Nat.sub_zero] at h2
        obtain ⟨g0, gc⟩ := gc
        rw [hu] at gc
        simp only at gc
        obtain ⟨xs, x1, x2⟩ := gc
        have gv' : PV P h S 11 f.type (x.v ρ) v := by rw [ht]; exact gv
        obtain ⟨w1, w2⟩ := x2.set (fun _ _ _ q => q.length) j f h2 gv'
        obtain ⟨_, c1, r1, _, _, y3, y4⟩ := x2.get j f h2
        rw [h3, Nat.sub_zero] at w1 w2 y3
        have hle : off + v.length ≤ c.length := by
          have l1 := y4.length; have l2 := gv'.length
          rw [l1] at l2
          have l3 : c1.length = v.length := by simpa using l2
          have := congrArg List.length y3
          simp at this
          omega
        refine ⟨hle, ⟨by rw [g0, w2], ?_⟩, w2⟩
        rw [hu]
        refine ⟨xs.set j (x.v ρ), ?_, w1⟩
        simp [E.v, x1, V.set, V.els, E.i]
      · cases k
    · cases k
theorem splice_splice {acs c r v : List AV} {p off : Nat} (hd : acs.drop p = c ++ r) (hle : off + v.length ≤ c.length) (hp : p ≤ acs.length) : splice acs (p + off) v = splice acs p (splice c off v) := by
  have hl : (splice c off v).length = c.length := by unfold splice; simp; omega
  have h3 : acs.drop (p + (splice c off v).length) = r := by rw [hl, ← List.drop_drop, hd, List.drop_left' rfl]
  have h1 : splice acs p (splice c off v) = acs.take p ++ (c.take off ++ v ++ c.drop (off + v.length)) ++ r := by
    show acs.take p ++ splice c off v ++ acs.drop (p + (splice c off v).length) = _
    rw [h3]; rfl
  rw [h1]
  unfold splice
  have h2 : acs = acs.take p ++ (c ++ r) := by rw [← hd, List.take_append_drop]
  have lp : (acs.take p).length = p := by simp; omega
  conv => lhs; rw [h2]
  rw [List.take_append, List.take_of_length_le (by omega), lp, Nat.add_sub_cancel_left, List.take_append_of_le_length (by omega)]
  rw [show p + off + v.length = (acs.take p).length + (off + v.length) from by omega, ← List.drop_drop, List.drop_left' rfl, List.drop_append_of_le_length hle]
  simp

theorem sstore_rel (R : HR P h0 h H ρ sh) {t : TypeId} {a v : SV} {u w : AV} {sh' : SHeap} {l : List E} (ga : SD P h H ρ a u) (gv : SD P h H ρ v w) (e : sstore P sh t a v = some (sh', l)) (hl : Holds ρ l) :
    ∃ h' H', astore P h t u w = some h' ∧ HExt h H h' H' ∧ HR P h0 h' H' ρ sh' ∧ SGrow h0 H H' := by
  unfold sstore at e
  split at e
  · rename_i b off
    split at e
    · rename_i cs hg
      split at e
      · rename_i s hs
        obtain ⟨hc, e⟩ := cond_ok e
        cases e
        simp only [Bool.and_eq_true] at hc
        obtain ⟨⟨c1, c2⟩, c3⟩ := hc
        have ho := R.objs _ _ hg
        cases ho with
        | cells q1 q2 q3 =>
          rename_i a acs
          cases ga with
          | addr q4 =>
            rw [q1] at q4; cases q4
            have hb : v ≠ .bad := by intro q; subst q; simp [SV.cells, SV.one] at c3
            have vc := gv.cells' hb
            have l1 := vc.length; have l2 := q3.length
            obtain ⟨x1, R1⟩ := R.upd (o := .cells (spliceS cs off v.cells)) (ob := .cells (splice acs off w.cells)) (acs := []) (sh' := sh.set b (.cells (spliceS cs off v.cells))) hg rfl rfl q1 rfl rfl rfl (.inl ⟨rfl, rfl⟩)
              (fun x => .cells (a := a) (acs := splice acs off w.cells) q1 (by rw [Heap.get_set]; simp) (by
                have : SDs P h H ρ (spliceS cs off v.cells) (splice acs off w.cells) := by
                  unfold spliceS splice
                  rw [← l1]
                  exact ((q3.take off).append vc).append (q3.drop _)
                exact this.mono x))
            refine ⟨_, _, ?_, x1, R1, fun a ha => .inl ha⟩
            simp only [astore, q2, hs]
            rw [← l1, ← l2, c1, c2, vc.one c3]
            rfl
      · cases e
    · cases e
  · rename_i b i off
    obtain ⟨H1, x1, R1, s1⟩ := freezes_rel (P := P) v.cells R
    simp only at e
    generalize freezes sh v.cells = sh1 at e R1
    split at e
    · rename_i et e0 ver hg
      split at e
      · rename_i s hs
        obtain ⟨hc, e⟩ := cond_ok e
        simp only [Bool.and_eq_true] at hc
        obtain ⟨⟨hc, hpos⟩, hone⟩ := hc
        have hc := beq_tt hc
        have hpos : 0 < s := by simpa [Nat.blt_eq] using hpos
        split at e
        · rename_i x hx
          split at e
          · rename_i y hy
            cases e
            have hi := inb_holds.1 hl
            rw [len'_i] at hi
            have ho := R1.objs _ _ hg
            cases ho with
            | arr0 q1 q2 _ _ => rw [q1] at hi; simp [V.len, V.els] at hi; omega
            | arr q1 q2 q3 q4 =>
              rename_i a len sz l acs
              rw [q1] at hi
              obtain ⟨m, hm1, hm2, hm3⟩ := toNat_of hi.1 hi.2
              have hm2 : m < l.length := hm2
              have ga1 := ga.mono x1
              have gv1 := gv.mono x1
              cases ga1 with
              | addrE q5 =>
                rw [q2] at q5; cases q5
                have hb : v ≠ .bad := by intro q; subst q; simp [SV.cells, SV.one] at hone
                have vc := gv1.cells' hb
                obtain ⟨cv, rv, w1, w2⟩ := valOf_rel R1 hx vc
                have lv := w2.length
                rw [hs] at lv
                have lc := vc.length
                have hrv : rv = [] := by
                  rw [w1] at lc
                  simp at lc lv
                  exact List.length_eq_zero_iff.1 (by omega)
                subst hrv
                rw [List.append_nil] at w1
                obtain ⟨c, r, d1, d2, d3⟩ := PV.deepRow q3.size q3.row hm2
                have d3' : PV P h H1.S deep et ((e0.get' i).v ρ) c := by rw [get'_v, q1, hm1]; exact d3
                have lv' : cv.length = s := by simpa using lv.symm
                obtain ⟨p1, p2, p3⟩ := setPart_rel hy d3' w2 (by omega)
                have rl := q3.row.length
                have hmle : (m + 1) * sz ≤ l.length * sz := Nat.mul_le_mul_right _ hm2
                rw [Nat.succ_mul] at hmle
                have hsp := splice_splice (v := cv) (off := off) d1 p1 (by omega)
                have row : PRow sz (PV P h H1.S deep et) (l.set m (y.v ρ)) (splice acs (m * sz + off) cv) := by
                  rw [hsp]; exact q3.row.set (by rw [p3]; exact d2) p2 m hm2
                obtain ⟨x2, R2⟩ := R1.upd (o := .arr et (.set e0 i y) sh1.next) (ob := .cells (splice acs (m * sz + off) cv)) (acs := splice acs (m * sz + off) cv) (sh' := { sh1 with next := sh1.next + 1, t := sh1.t.set b (.arr et (.set e0 i y) sh1.next) }) hg rfl rfl q2 rfl rfl rfl (.inr rfl)
                  (fun x => .arr (l := l.set m (y.v ρ)) (by simp [E.v, q1, V.set, V.els, hm3]) q2 ⟨q3.size, q3.pos, by simpa using q3.len, by rw [Heap.get_set]; simp, row.imp fun _ _ q => q.mono x.kept⟩ (by simp [Hid.ver]))
                refine ⟨_, _, ?_, x1.trans x2, R2, s1.trans fun a ha => .inl ha⟩
                have wl : w.cells.length = s := by rw [w1]; simpa using lv.symm
                have h1 : (Nat.beq w.cells.length s && Nat.ble (m * sz + off + s) acs.length && w.cells.all AV.one) = true := by
                  simp only [Bool.and_eq_true]
                  refine ⟨⟨by rw [wl]; simp, ?_⟩, ?_⟩
                  · rw [Nat.ble_eq]
                    have : cv.length = s := by simpa using lv.symm
                    omega
                  · rw [List.all_eq_true, w1]; exact w2.cell
                simp only [astore, hm3, q3.get, hs]
                rw [h1, cond_true, w1]
          · cases e
        · cases e
      · cases e
    · cases e
  · cases e

theorem app'_v (a : E) : ∀ b : E, (E.app' a b).v ρ = (a.v ρ).app (b.v ρ) := by
  intro b
  induction b with
  | nil => simp [E.app', E.v, V.app, V.els]
  | emp => simp [E.app', E.v, V.app, V.els]
  | snoc b y ih _ =>
    have hels : ∀ x z : V, (x.app z).els = x.els ++ z.els := by
      intro x z
      unfold V.app
      split
      · rename_i h; simp [h]
      · rfl
    simp only [E.app', E.v, ih, V.snoc, hels]
    simp only [V.app, V.els]
    cases hq : (b.v ρ).els ++ [y.v ρ] with
    | nil => simp at hq
    | cons p q => simp only [V.els] at hq ⊢; rw [List.append_assoc]; rw [hq]
  | _ => rfl
theorem most_ok {n bytes : Nat} (hb : 0 < bytes) (h0 : 0 < n) (h : n ≤ most bytes) : (2 * n + 1024) * bytes ≤ 140737488355328 ∧ n ≤ 2305843009213693952 := by
  unfold most at h
  generalize hq : Nat.div 140737488355328 bytes = q at h
  have hq' : 140737488355328 / bytes = q := hq
  have h' : n ≤ (q - 1024) / 2 := h
  have h2 : 2 * n + 1024 ≤ q := by omega
  have h3 : q * bytes ≤ 140737488355328 := by rw [← hq']; exact Nat.div_mul_le_self _ _
  have h4 : (2 * n + 1024) * bytes ≤ q * bytes := Nat.mul_le_mul_right _ h2
  have h5 : q ≤ 140737488355328 := Nat.le_trans (Nat.le_mul_of_pos_right q hb) h3
  exact ⟨Nat.le_trans h4 h3, by omega⟩

theorem sappend_rel (R : HR P h0 h H ρ sh) {st xt : TypeId} {s x v : SV} {u w : AV} {sh' : SHeap} {l : List E} (gs : SD P h H ρ s u) (gx : SD P h H ρ x w) (e : sappend P sh st xt s x = some (v, sh', l)) (hl : Holds ρ l) :
    ∃ r h' H', aappend P h st xt u w = some (r, h') ∧ HExt h H h' H' ∧ HR P h0 h' H' ρ sh' ∧ SD P h' H' ρ v r ∧ SGrow h0 H H' := by
  unfold sappend at e
  split at e
  case h_2 => cases e
  rename_i et xe0 hst hxt
  split at e
  case h_2 => cases e
  rename_i i z hi hz
  obtain ⟨hc, e⟩ := cond_ok e
  simp only [Bool.and_eq_true] at hc
  obtain ⟨⟨⟨c1, c2⟩, c3⟩, c4⟩ := hc
  have hsz : sizeT P et = some i.size := size_i hi
  have hpos : 0 < i.size := by simpa [Nat.blt_eq] using c2
  have hbp : 0 < i.bytes := by simpa [Nat.blt_eq] using c3
  obtain ⟨zu, z1, z2⟩ := szero_rel (h := h) (H := H) (ρ := ρ) hz
  have zb : z ≠ .bad := by intro q; subst q; simp [SV.cells, SV.one] at c4
  have zc := z2.cells' zb
  have hguard : (Nat.beq zu.cells.length i.size && Nat.blt 0 i.size && zu.cells.all AV.one) = true := by
    simp only [Bool.and_eq_true]
    exact ⟨⟨by rw [← zc.length]; exact c1, c2⟩, zc.one c4⟩
  split at e
  case h_2 => cases e
  rename_i xe ex hex
  obtain ⟨hxe, e2⟩ := cond_ok e
  clear e
  have hxe := beq_tt hxe
  subst xe
  -- what is appended
  have hnew : ∃ m new, elems h i.size w = some (m, new) ∧ new.length = m * i.size ∧ (ex.v ρ).els.length = m ∧ PRow i.size (PV P h H.S deep et) (ex.v ρ).els new := by
    split at hex
    · cases hex; cases gx
      exact ⟨0, [], rfl, by simp, rfl, rfl⟩
    · rcases listOf_rel R gx hex with ⟨q1, rfl⟩ | ⟨l0, sz, q1, q2, _, _, cs, q3, q4⟩
      · exact ⟨0, [], rfl, by simp, by rw [q1]; rfl, by rw [q1]; rfl⟩
      · rw [hsz] at q2; cases q2
        exact ⟨l0.length, cs, q3, q4.length, by rw [q1]; rfl, by rw [q1]; exact q4⟩
  obtain ⟨m, new, n1, n2, n3, n4⟩ := hnew
  have none1 : new.all AV.one = true := by rw [List.all_eq_true]; exact n4.all fun _ _ q => q.cell
  have app : ∀ (r : AV × Heap), appendTo h i.size i.bytes u m new = some r → aappend P h st xt u w = some r := by
    intro r hr
    simp only [aappend, hst, hi, z1, hxt]
    rw [hguard, cond_true]
    simp only [appended, n1]
    exact hr
  have lexp : ex.len'.i ρ = m := by rw [len'_i]; show ((ex.v ρ).els.length : Int) = m; rw [n3]
  split at e2
  · -- onto nil
    cases e2
    cases gs
    rw [ask_holds, le'_b, leB_iff, lexp] at hl
    have hm : m ≤ most i.bytes := Int.ofNat_le.1 hl
    have hv : (E.app' .nil ex).v ρ = if m = 0 then .nil else .list (ex.v ρ).els := by
      rw [app'_v]
      simp only [E.v, V.app]
      cases hq : (ex.v ρ).els with
      | nil => rw [hq] at n3; simp at n3; simp [← n3]
      | cons a b => rw [hq] at n3; simp at n3; rw [if_neg (by omega)]; rfl
    cases m with
    | zero =>
      obtain ⟨x1, R1⟩ := R.alias (o := .arr et (E.app' .nil ex) sh.next) (l := .nil) (acs := []) (fun a q => by cases q) (fun x => .arr0 (by rw [hv]; rfl) (by simp [Hid.new]) hsz hpos)
      exact ⟨_, _, _, app _ rfl, x1, R1, .view0 (by simp [Hid.new]), fun a ha => .inl ha⟩
    | succ m =>
      rw [if_neg (by omega)] at hv
      obtain ⟨b1, b2⟩ := most_ok hbp (by omega) hm
      obtain ⟨x1, R1⟩ := R.new (o := .arr et (E.app' .nil ex) sh.next) (ob := .cells new) (l := .blk h.next (m + 1) i.size) (acs := new) rfl
        (fun x => .arr (a := h.next) (len := m + 1) (sz := i.size) hv (by simp [Hid.new]) ⟨hsz, hpos, n3.symm, by rw [Heap.get_new]; simp, n4.imp fun _ _ q => q.mono x.kept⟩ (by simp [Hid.new]))
      refine ⟨.slice h.next 0 (m + 1) i.size, _, _, app _ ?_, x1, R1, .view (by simp [Hid.new]), fun a ha => .inl ha⟩
      simp only [appendTo]
      have : (Nat.ble ((2 * (m + 1) + 1024) * i.bytes) 140737488355328 && Nat.ble (m + 1) 2305843009213693952 && new.all AV.one) = true := by
        simp only [Bool.and_eq_true, Nat.ble_eq]; exact ⟨⟨b1, b2⟩, none1⟩
      rw [this, cond_true]
  · -- onto a block of our own
    rename_i b
    split at e2
    case h_2 => cases e2
    rename_i et' e0 ver hg
    obtain ⟨het, e3⟩ := cond_ok e2
    clear e2
    have het := beq_tt het
    subst et'
    cases e3
    rw [ask_holds, le'_b, leB_iff, add'_i, lexp] at hl
    have ho := R.objs _ _ hg
    have hblt := R.blk_lt _ _ hg
    cases ho with
    | arr0 q1 q2 _ _ =>
      cases gs with
      | view q => rw [q2] at q; cases q
      | view0 q =>
      have le0 : e0.len'.i ρ = 0 := by rw [len'_i, q1]; rfl
      rw [le0] at hl
      have hm : m ≤ most i.bytes := Int.ofNat_le.1 (by simpa [E.i] using hl)
      have hv : (E.app' e0 ex).v ρ = if m = 0 then .nil else .list (ex.v ρ).els := by
        rw [app'_v, q1]
        simp only [V.app]
        cases hq : (ex.v ρ).els with
        | nil => rw [hq] at n3; simp at n3; simp [← n3]
        | cons a b => rw [hq] at n3; simp at n3; rw [if_neg (by omega)]; rfl
      have RK := R.killS b
      cases m with
      | zero =>
        obtain ⟨x1, R1⟩ := RK.alias (o := .arr et (E.app' e0 ex) sh.next) (l := .nil) (acs := []) (fun a q => by cases q) (fun x => .arr0 (by rw [hv]; rfl) (by simp [Hid.new, SHeap.kill]) hsz hpos)
        exact ⟨_, _, _, app _ rfl, x1, R1, .view0 (by simp [Hid.new, SHeap.kill]), fun a ha => .inl ha⟩
      | succ m =>
        rw [if_neg (by omega)] at hv
        obtain ⟨b1, b2⟩ := most_ok hbp (by omega) hm
        obtain ⟨x1, R1⟩ := RK.new (o := .arr et (E.app' e0 ex) sh.next) (ob := .cells new) (l := .blk h.next (m + 1) i.size) (acs := new) rfl
          (fun x => .arr (a := h.next) (len := m + 1) (sz := i.size) hv (by simp [Hid.new, SHeap.kill]) ⟨hsz, hpos, n3.symm, by rw [Heap.get_new]; simp, n4.imp fun _ _ q => q.mono x.kept⟩ (by simp [Hid.new, SHeap.kill]))
        refine ⟨.slice h.next 0 (m + 1) i.size, _, _, app _ ?_, x1, R1, .view (by simp [Hid.new, SHeap.kill]), fun a ha => .inl ha⟩
        simp only [appendTo]
        have : (Nat.ble ((2 * (m + 1) + 1024) * i.bytes) 140737488355328 && Nat.ble (m + 1) 2305843009213693952 && new.all AV.one) = true := by
          simp only [Bool.and_eq_true, Nat.ble_eq]; exact ⟨⟨b1, b2⟩, none1⟩
        rw [this, cond_true]
    | arr q1 q2 q3 q4 =>
      rename_i a len sz l0 acs
      cases gs with
      | view0 q => rw [q2] at q; cases q
      | view q =>
      rw [q2] at q; cases q
      have hz2 := q3.size
      rw [hsz] at hz2; cases hz2
      have hlen := q3.len
      subst hlen
      have le0 : e0.len'.i ρ = l0.length := by rw [len'_i, q1]; rfl
      rw [le0] at hl
      have hm : l0.length + m ≤ most i.bytes := Int.ofNat_le.1 (by simpa [E.i] using hl)
      obtain ⟨hS, hbase⟩ := R.ownS _ _ _ _ hg rfl q2 rfl
      have RK := R.killS b
      have gview : SD P h H ρ (.view b) (.slice a 0 l0.length i.size) := .view q2
      have helems : elems h i.size (.slice a 0 l0.length i.size) = some (l0.length, acs) := by
        rcases listOf_rel R gview (show listOf sh (.view b) = some (et, e0) by simp [listOf, hg]) with ⟨_, w⟩ | ⟨l1, sz, w1, w2, _, _, cs, w3, w4⟩
        · cases w
        · rw [q1] at w1; cases w1
          rw [hsz] at w2; cases w2
          rw [w3]
          have : cs = acs := by
            have tk : takeN (l0.length * i.size) (acs.drop 0) = some cs := by
              simp only [elems, q3.get, beq_self', cond_true, Option.map_eq_some_iff] at w3
              obtain ⟨c', c2, c3⟩ := w3
              cases c3
              exact c2
            have full : ∀ (n : Nat) (xs : List AV), n = xs.length → takeN n xs = some xs := by
              intro n xs
              induction xs generalizing n with
              | nil => intro h; subst h; rfl
              | cons x xs ih => intro h; subst h; simp [takeN, ih _ rfl]
            rw [List.drop_zero, full _ _ q3.row.length.symm] at tk
            cases tk; rfl
          rw [this]
      cases m with
      | zero =>
        have hv : (E.app' e0 ex).v ρ = .list l0 := by
          rw [app'_v, q1]
          simp only [V.app]
          have : (ex.v ρ).els = [] := List.length_eq_zero_iff.1 n3
          rw [this]
        obtain ⟨x1, R1⟩ := RK.alias (o := .arr et (E.app' e0 ex) sh.next) (l := .blk a l0.length i.size) (acs := acs)
          (fun a' q => by
            cases q
            refine ⟨hS, hbase, R.nu_lt _ _ _ q2 rfl, fun c o l' hc hw hn hl' => ?_⟩
            rw [SHeap.get_kill] at hc
            split at hc
            · cases hc
            · rename_i hcb; exact hcb (R.inj _ _ _ _ _ _ _ hc hg hw rfl hn q2 hl' rfl))
          (fun x => .arr (a := a) (len := l0.length) (sz := i.size) hv (by simp [Hid.new, SHeap.kill]) ⟨hsz, hpos, rfl, q3.get, q3.row.imp fun _ _ q => q.mono x.kept⟩ (by simp [Hid.new, SHeap.kill]))
        refine ⟨.slice a 0 l0.length i.size, h, _, app _ ?_, x1, R1, .view (by simp [Hid.new, SHeap.kill]), fun a ha => .inl ha⟩
        simp only [appendTo, helems]
      | succ m =>
        have hv : (E.app' e0 ex).v ρ = .list (l0 ++ (ex.v ρ).els) := by
          rw [app'_v, q1]
          simp only [V.app]
          cases hq : (ex.v ρ).els with
          | nil => rw [hq] at n3; simp at n3
          | cons a b => rfl
        obtain ⟨b1, b2⟩ := most_ok hbp (by omega) hm
        obtain ⟨x0, R0⟩ := RK.killA (a := a) hS hbase (fun c o l' hc hn hl' => by
            rw [SHeap.get_kill] at hc
            split at hc
            · cases hc
            · rename_i hcb
              by_cases hw : own o = true
              · exact hcb (R.inj _ _ _ _ _ _ _ hc hg hw rfl hn q2 hl' rfl)
              · have ho' := R.objs _ _ hc
                cases ho' with
                | froz0 z1 z2 z3 z4 z5 => rw [z4] at hn; cases hn; cases hl'
                | froz z1 z2 z3 z4 z5 => rw [z2] at hn; cases hn; cases hl'; exact hS z4
                | _ => exact absurd rfl hw)
        obtain ⟨x1, R1⟩ := R0.new (o := .arr et (E.app' e0 ex) sh.next) (ob := .cells (acs ++ new)) (l := .blk h.next (l0.length + (m + 1)) i.size) (acs := acs ++ new) rfl
          (fun x => .arr (a := h.next) (len := l0.length + (m + 1)) (sz := i.size) hv (by simp [Hid.new, SHeap.kill]) ⟨hsz, hpos, by simp [n3], by rw [Heap.get_new]; simp [Heap.kill], (q3.row.append n4).imp fun _ _ q => q.mono (x0.trans x).kept⟩ (by simp [Hid.new, SHeap.kill]))
        refine ⟨.slice h.next 0 (l0.length + (m + 1)) i.size, _, _, app _ ?_, x0.trans x1, R1, .view (by simp [Hid.new, SHeap.kill]), fun a ha => .inl ha⟩
        simp only [appendTo, helems]
        have : (Nat.ble ((2 * (l0.length + (m + 1)) + 1024) * i.bytes) 140737488355328 && Nat.ble (l0.length + (m + 1)) 2305843009213693952 && new.all AV.one) = true := by
          simp only [Bool.and_eq_true, Nat.ble_eq]; exact ⟨⟨b1, b2⟩, none1⟩
        rw [this, cond_true]
  · cases e2
end
end Go.Sym
namespace Go.Sym
open Go Go.Abs
set_option linter.unusedVariables false
set_option linter.unusedSimpArgs false

inductive NextR (P : Program) (h : Heap) (H : Hid) (ρ : Env) : SNext → ANext → Prop
  | value {v : SV} {u : AV} : SD P h H ρ v u → NextR P h H ρ (.value v) (.value u)
  | enter {f : FuncId} {x : List SV} {u : List AV} : SDs P h H ρ x u → NextR P h H ρ (.enter f x) (.enter f u)
  | round {l a : Nat} : H.ν l = some (.obj a) → NextR P h H ρ (.round l) (.round a)
  | defer {d : SDef} {e : ADef} : DefR P h H ρ d e → NextR P h H ρ (.defer d) (.defer e)
  | recover : NextR P h H ρ .recover .recover
section
variable {P : Program} {h : Heap} {H : Hid} {ρ : Env} {h0 : Heap} {sh : SHeap}

theorem scopy_rel (R : HR P h0 h H ρ sh) {dt : TypeId} {d x v : SV} {u w : AV} {sh' : SHeap} {l : List E} (gd : SD P h H ρ d u) (gx : SD P h H ρ x w) (e : scopy P sh dt d x = some (v, sh', l)) (hl : Holds ρ l) :
    ∃ r h' H', acopy P h dt u w = some (r, h') ∧ HExt h H h' H' ∧ HR P h0 h' H' ρ sh' ∧ SD P h' H' ρ v r ∧ SGrow h0 H H' := by
  unfold scopy at e
  split at e
  case h_2 => cases e
  rename_i et hdt
  split at e
  case h_2 => cases e
  rename_i sz hsz
  split at e
  case h_2 => cases e
  rename_i xe ex b hex
  split at e
  case h_2 => cases e
  rename_i et' e0 ver hg
  obtain ⟨hc, e2⟩ := cond_ok e
  clear e
  simp only [Bool.and_eq_true] at hc
  have h1 := beq_tt hc.1
  have h2 := beq_tt hc.2
  subst et'
  subst xe
  cases e2
  rw [ask_holds] at hl
  have ho := R.objs _ _ hg
  cases ho with
  | arr0 q1 q2 _ _ => simp [E.b, q1, V.isNil] at hl
  | arr q1 q2 q3 q4 =>
    rename_i a len sz' l0 acs
    cases gd with
    | view0 q => rw [q2] at q; cases q
    | view q =>
    rw [q2] at q; cases q
    have hz2 := q3.size
    rw [hsz] at hz2; cases hz2
    have hlen := q3.len
    subst hlen
    have hnew : ∃ m new, elems h sz w = some (m, new) ∧ (ex.v ρ).els.length = m ∧ PRow sz (PV P h H.S deep et) (ex.v ρ).els new := by
      rcases listOf_rel R gx hex with ⟨w1, rfl⟩ | ⟨l1, sz, w1, w2, _, _, cs, w3, w4⟩
      · exact ⟨0, [], rfl, by rw [w1]; rfl, by rw [w1]; rfl⟩
      · rw [hsz] at w2; cases w2
        exact ⟨l1.length, cs, w3, by rw [w1]; rfl, by rw [w1]; exact w4⟩
    obtain ⟨m, new, n1, n3, n4⟩ := hnew
    have nl := n4.length
    have al := q3.row.length
    rw [n3] at nl
    have hv : (E.over e0 ex).v ρ = .list ((ex.v ρ).els.take l0.length ++ l0.drop m) := by
      simp only [E.v, q1, V.over]
      rw [show (V.list l0).els = l0 from rfl, n3]
    have key : PRow sz (PV P h H.S deep et) ((ex.v ρ).els.take l0.length ++ l0.drop m) (splice acs 0 (new.take (Nat.min m l0.length * sz))) := by
      have ht : (ex.v ρ).els.take l0.length = (ex.v ρ).els.take (Nat.min m l0.length) := by
        by_cases hle : m ≤ l0.length
        · rw [List.take_of_length_le (by omega), List.take_of_length_le (by rw [n3]; show m ≤ min m l0.length; omega)]
        · rw [show Nat.min m l0.length = l0.length from by show min m l0.length = _; omega]
      have hd : l0.drop m = l0.drop (Nat.min m l0.length) := by
        by_cases hle : m ≤ l0.length
        · rw [show Nat.min m l0.length = m from by show min m l0.length = _; omega]
        · rw [List.drop_eq_nil_of_le (by omega), List.drop_eq_nil_of_le (by show l0.length ≤ min m l0.length; omega)]
      rw [ht, hd]
      have hlen : (new.take (Nat.min m l0.length * sz)).length = Nat.min m l0.length * sz := by
        rw [List.length_take, nl]
        have : Nat.min m l0.length * sz ≤ m * sz := Nat.mul_le_mul_right _ (Nat.min_le_left _ _)
        omega
      unfold splice
      rw [hlen]
      simp only [List.take_zero, List.nil_append, Nat.zero_add]
      exact (n4.take _).append (q3.row.drop _)
    obtain ⟨x2, R2⟩ := R.upd (o := .arr et (.over e0 ex) sh.next) (ob := .cells (splice acs 0 (new.take (Nat.min m l0.length * sz)))) (acs := splice acs 0 (new.take (Nat.min m l0.length * sz))) (sh' := { sh with next := sh.next + 1, t := sh.t.set b (.arr et (.over e0 ex) sh.next) }) hg rfl rfl q2 rfl rfl rfl (.inr rfl)
      (fun x => .arr (a := a) (len := l0.length) (sz := sz) hv q2 ⟨hsz, q3.pos, by rw [List.length_append, List.length_take, List.length_drop, n3]; omega, by rw [Heap.get_set]; simp, key.imp fun _ _ q => q.mono x.kept⟩ (by simp [Hid.ver]))
    have hi : (E.min ex.len' e0.len').i ρ = ((Nat.min m l0.length : Nat) : Int) := by
      simp only [E.i, len'_i, q1, minI, V.len, n3]
      show (if (l0.length : Int) < m then (l0.length : Int) else m) = _
      split
      · rw [show Nat.min m l0.length = l0.length from by show min m l0.length = _; omega]
      · rw [show Nat.min m l0.length = m from by show min m l0.length = _; omega]
    refine ⟨.int .i64 (Nat.min m l0.length : Nat), _, _, ?_, x2, R2, hi ▸ .int _ _, fun a ha => .inl ha⟩
    simp only [acopy, hdt, hsz, n1, q3.get]
    have : (Nat.beq sz sz && Nat.ble (0 + l0.length * sz) acs.length && new.all AV.one) = true := by
      simp only [Bool.and_eq_true, Nat.ble_eq]
      exact ⟨⟨by simp, by rw [al]; omega⟩, by rw [List.all_eq_true]; exact n4.all fun _ _ q => q.cell⟩
    rw [this, cond_true]

theorem scall_rel {f : SV} {fa : AV} {as_ : List SV} {bs : List AV} {n : SNext} (g : SD P h H ρ f fa) (ga : SDs P h H ρ as_ bs) (e : scall P f as_ = some n) : ∃ m, acall P fa bs = some m ∧ NextR P h H ρ n m := by
  unfold scall at e
  split at e
  · split at e
    · rename_i fn hfn
      split at e
      · rename_i c hb
        cases e
        cases g with
        | func g1 g2 => exact ⟨_, by simp [acall, hfn, hb], .enter ((g1.append ga).append g2)⟩
      · cases e
    · cases e
  · cases e
    cases g with | yieldf q => exact ⟨_, rfl, .round q⟩
  · cases e

theorem sheavy_rel (R : HR P h0 h H ρ sh) {x : Tr SV} {y : Tr AV} (g : TmR P h H ρ x y) {o : Oper} {n : SNext} {l : List E} {sh' : SHeap} (e : sheavy P sh x o = some (n, sh', l)) (hl : Holds ρ l) :
    ∃ m h' H', alight P h y o = none ∧ afresh P h.next y o = none ∧ aheavy P h y o = some (m, h') ∧ HExt h H h' H' ∧ HR P h0 h' H' ρ sh' ∧ NextR P h' H' ρ n m ∧ SGrow h0 H H' := by
  obtain ⟨dst, op, type, pos, after, guard⟩ := o
  have ev := fun o => sEval_rel g o
  unfold sheavy at e
  simp only at e
  split at e
  · simp only [Option.map_eq_some_iff] at e
    obtain ⟨r, e1, e2⟩ := e
    cases e2
    obtain ⟨h', H', w1, w2, w3, w4⟩ := sstore_rel R (ev _) (ev _) e1 hl
    exact ⟨_, h', H', rfl, rfl, by simp only [aheavy, w1]; rfl, w2, w3, .value (.bad _), w4⟩
  · split at e
    · rename_i hargs htypes
      simp only [Option.map_eq_some_iff] at e
      obtain ⟨⟨ra, rb, rc⟩, e1, e2⟩ := e
      simp only [Prod.mk.injEq] at e2
      obtain ⟨rfl, rfl, rfl⟩ := e2
      obtain ⟨r', h', H', w1, w2, w3, w4, w5⟩ := sappend_rel R (ev _) (ev _) e1 hl
      refine ⟨_, h', H', rfl, rfl, ?_, w2, w3, .value w4, w5⟩
      simp only [aheavy, hargs, htypes, w1]; rfl
    · rename_i hargs htypes
      simp only [Option.map_eq_some_iff] at e
      obtain ⟨⟨ra, rb, rc⟩, e1, e2⟩ := e
      simp only [Prod.mk.injEq] at e2
      obtain ⟨rfl, rfl, rfl⟩ := e2
      obtain ⟨r', h', H', w1, w2, w3, w4, w5⟩ := scopy_rel R (ev _) (ev _) e1 hl
      refine ⟨_, h', H', rfl, rfl, ?_, w2, w3, .value w4, w5⟩
      simp only [aheavy, hargs, htypes, w1]; rfl
    · rename_i hargs
      cases e
      refine ⟨.recover, h, H, rfl, rfl, ?_, HExt.refl _ _, R, .recover, SGrow.refl _ _⟩
      simp only [aheavy, hargs]
    · cases e
  · simp only [Option.map_eq_some_iff] at e
    obtain ⟨r, e1, e2⟩ := e
    cases e2
    obtain ⟨m, w1, w2⟩ := scall_rel (ev _) (SDs.map fun a _ => ev a) e1
    exact ⟨m, h, H, rfl, rfl, by simp only [aheavy, w1]; rfl, HExt.refl _ _, R, w2, SGrow.refl _ _⟩
  · rename_i f args argTypes
    split at e
    · rename_i fn first captured hq
      cases e
      have gf := ev f
      rw [hq] at gf
      cases hh : evalOp y f with
      | func fn' a b =>
        rw [hh] at gf
        cases gf with
        | func g1 g2 =>
          refine ⟨_, h, H, rfl, rfl, by simp only [aheavy, hh], HExt.refl _ _, R, .defer (.func ((g1.append (SDs.map fun a _ => ev a)).append g2)), SGrow.refl _ _⟩
      | _ => rw [hh] at gf; cases gf
    · cases e
  · cases e
end
end Go.Sym
/- The machine's steps: sound. -/
namespace Go.Sym
open Go Go.Abs
set_option linter.unusedVariables false
set_option linter.unusedSimpArgs false
section
variable {P : Program} {h : Heap} {H : Hid} {ρ : Env} {h0 : Heap} {sh : SHeap}

theorem TmR.over {x : Tr SV} {y : Tr AV} (g : TmR P h H ρ x y) (t : Nat) {v : SV} (k : SD P h H ρ v (tmGet y t)) : TmR P h H ρ (x.set t v) y := by
  intro c w e
  rw [Tr.get_set] at e
  by_cases hc : c = t
  · subst hc; simp at e; subst e; exact k
  · rw [if_neg hc] at e; exact g c w e
theorem SD.ofBool {b : Bool} {v : SV} {e : E} (g : SD P h H ρ v (.bool b)) (hv : v = .bool e) : b = e.b ρ := by subst hv; cases g; rfl
theorem SD.toBool {u : AV} {e : E} (g : SD P h H ρ (.bool e) u) : u = .bool (e.b ρ) := by cases g; rfl
theorem sguard_known {ops : Array Oper} {x : Tr SV} {y : Tr AV} {o : Oper} {b : Bool} (g : TmR P h H ρ x y) (e : sguard ops x o = some (.known b)) : awanted ops y o = some b := by
  unfold sguard at e
  unfold awanted
  cases hg : o.guard with
  | none => rw [hg] at e; cases e; rfl
  | some jw =>
    obtain ⟨j, want⟩ := jw
    rw [hg] at e
    simp only at e ⊢
    cases ho : ops[j]? with
    | none => rw [ho] at e; cases e
    | some q =>
      rw [ho] at e
      simp only at e ⊢
      cases hd : q.dst with
      | none => rw [hd] at e; cases e
      | some d =>
        rw [hd] at e
        simp only at e ⊢
        have gd := g.at d
        split at e
        · rename_i b' hq
          cases e
          rw [hq] at gd
          rw [gd.toBool]; rfl
        · cases e
        · rename_i hq
          cases e
          rw [hq] at gd
          cases hh : tmGet y d with
          | tuple l => rw [hh] at gd; cases gd with | tuple q => cases q; rfl
          | _ => rw [hh] at gd; cases gd
        · cases e
theorem sguard_open {ops : Array Oper} {x : Tr SV} {y : Tr AV} {o : Oper} {d : Tmp} {e0 : E} {want : Bool} (g : TmR P h H ρ x y) (e : sguard ops x o = some (.open_ d e0 want)) : awanted ops y o = some (e0.b ρ == want) ∧ tmGet y d = .bool (e0.b ρ) := by
  unfold sguard at e
  unfold awanted
  cases hg : o.guard with
  | none => rw [hg] at e; cases e
  | some jw =>
    obtain ⟨j, want⟩ := jw
    rw [hg] at e
    simp only at e ⊢
    cases ho : ops[j]? with
    | none => rw [ho] at e; cases e
    | some q =>
      rw [ho] at e
      simp only at e ⊢
      cases hd : q.dst with
      | none => rw [hd] at e; cases e
      | some d =>
        rw [hd] at e
        simp only at e ⊢
        have gd := g.at d
        split at e
        · cases e
        · rename_i e' hne hq
          cases e
          rw [hq] at gd
          rw [gd.toBool]
          exact ⟨rfl, rfl⟩
        · cases e
        · cases e

theorem sagain_rel (R : HR P h0 h H ρ sh) {C : Cfg} (hC : C.P = P) {fn : FuncId} {x : Tr SV} {y : Tr AV} (g : TmR P h H ρ x y) {ops : Array Oper} : ∀ {chk : List Nat} {l : List E}, sagain C fn sh x ops chk = some l → Holds ρ l → again P h y ops chk = true
  | [], _, _, _ => rfl
  | i :: chk, l, e, hl => by
    unfold sagain at e
    unfold again
    cases ho : ops[i]? with
    | none => rw [ho] at e; cases e
    | some o =>
      rw [ho] at e
      simp only at e ⊢
      cases hd : o.dst with
      | none => rw [hd] at e; cases e
      | some d =>
        rw [hd] at e
        simp only at e ⊢
        split at e
        · rename_i hg
          rw [sguard_known g hg]
          simp only
          split at e
          · rename_i v c r h1 h2
            obtain ⟨hb, e⟩ := cond_ok e
            cases e
            rw [Holds.append] at hl
            rw [hC] at h1
            obtain ⟨u, u1, u2⟩ := slight_rel R g h1 hl.1
            rw [u1]
            simp only [Bool.and_eq_true]
            exact ⟨beq_same 7 hb u2 (g.at d), sagain_rel R hC g h2 hl.2⟩
          · cases e
        · rename_i hg
          rw [sguard_known g hg]
          exact sagain_rel R hC g e hl
        · cases e
theorem stSet_rel {x x' : Tr SV} {y : Tr AV} (g : TmR P h H ρ x y) {nt : Nat} {d : Option Tmp} {v : SV} {u : AV} (gv : SD P h H ρ v u) (e : stSet nt x d v = some x') : ∃ y', tmSet nt y d u = some y' ∧ TmR P h H ρ x' y' := by
  cases d with
  | none => cases e; exact ⟨y, rfl, g⟩
  | some d =>
    unfold stSet at e
    obtain ⟨hc, e⟩ := cond_ok e
    cases e
    exact ⟨y.set d u, by simp [tmSet, hc], g.set d gv⟩
theorem ItR.reg {ops : Array Oper} {i : Nat} {r : List Oper} {b : AItem} (g : ItR H (.reg ops i r) b) : b = .reg ops i r := by cases g; rfl
theorem ItR.dreg {ops : Array Oper} {r : List (Nat × List Nat)} {b : AItem} (g : ItR H (.dreg ops r) b) : b = .dreg ops r := by cases g; rfl
theorem plainItem {x : AItem} (h : (match x with | .inRangeFunc _ | .endRangeFunc _ => false | _ => true) = true) : ∀ l, x ≠ .inRangeFunc l ∧ x ≠ .endRangeFunc l := by
  intro l
  constructor <;> (intro e; subst e; simp at h)
theorem ItR.plain {x : AItem} (h : (match x with | .inRangeFunc _ | .endRangeFunc _ => false | _ => true) = true) : ItR H x x := .same x (plainItem h)
theorem ModeR.run_iff {m : AMode} (g : ModeR .run m) : m = .run := by cases m <;> first | rfl | exact g.elim
theorem ModeR.ret_iff {m : AMode} (g : ModeR .returning m) : m = .returning := by cases m <;> first | rfl | exact g.elim

theorem sfinish_rel (R : HR P h0 h H ρ sh) {C : Cfg} (hC : C.P = P) {fr fr' : SFrame} {f : AFrame} {v : SV} {u : AV} {l : List E} (g : FR P h H ρ fr f) (gv : SD P h H ρ v u) (e : sfinish C sh fr v = some (fr', l)) (hl : Holds ρ l) :
    ∃ f', afinish P h f u = some f' ∧ FR P h H ρ fr' f' := by
  unfold sfinish at e
  have gt := g.todo
  generalize hft : f.todo = ft at gt
  split at e
  · rename_i ops i o rest k htd
    rw [htd] at gt
    cases gt with
    | cons g1 g2 =>
      rename_i yi ys
      have := g1.reg; subst this
      split at e
      · rename_i tm htm
        cases e
        obtain ⟨y', y1, y2⟩ := stSet_rel g.tm gv htm
        rw [← g.nt] at y1
        refine ⟨{ f with tm := y', todo := .reg ops (i + 1) rest :: ys }, by simp only [afinish, hft, y1], ⟨g.fn, g.nt, y2, .cons (.plain rfl) g2, g.defers, g.mode, g.deferred, g.round⟩⟩
      · cases e
  · rename_i ops i chk rest k htd
    rw [htd] at gt
    cases gt with
    | cons g1 g2 =>
      rename_i yi ys
      have := g1.dreg; subst this
      split at e
      · rename_i o ho
        split at e
        · rename_i tm htm
          simp only [Option.map_eq_some_iff] at e
          obtain ⟨c, h1, h2⟩ := e
          cases h2
          obtain ⟨y', y1, y2⟩ := stSet_rel g.tm gv htm
          rw [← g.nt] at y1
          have ha := sagain_rel R hC y2 h1 hl
          refine ⟨{ f with tm := y', todo := .dreg ops rest :: ys }, by simp only [afinish, hft, ho, y1, ha, cond_true], ⟨g.fn, g.nt, y2, .cons (.plain rfl) g2, g.defers, g.mode, g.deferred, g.round⟩⟩
        · cases e
      · cases e
  · rename_i lp k htd
    rw [htd] at gt
    cases gt with
    | cons g1 g2 =>
      cases e
      cases g1 with
      | same _ q => exact absurd rfl (q lp).1
      | inRangeFunc q =>
        rename_i ys a
        exact ⟨{ f with todo := .endRangeFunc a :: ys }, by simp only [afinish, hft], ⟨g.fn, g.nt, g.tm, .cons (.endRangeFunc q) g2, g.defers, g.mode, g.deferred, g.round⟩⟩
  · cases e

theorem setAll_rel : ∀ {as_ : List SV} {bs : List AV} {x : Tr SV} {y : Tr AV} {i : Nat}, SDs P h H ρ as_ bs → TmR P h H ρ x y → TmR P h H ρ (senter.setAll x i as_) (enter.setAll y i bs)
  | [], _, x, y, i, .nil, g => g
  | a :: as_, _, x, y, i, .cons g1 g2, g => by unfold senter.setAll enter.setAll; exact setAll_rel g2 (g.set i g1)
theorem senter_rel {f : FuncId} {as_ : List SV} {bs : List AV} {d : Bool} {fr : SFrame} (g : SDs P h H ρ as_ bs) (e : senter P f as_ d = some fr) : ∃ f', enter P f bs d = some f' ∧ FR P h H ρ fr f' := by
  unfold senter at e
  split at e
  · rename_i fn hfn
    split at e
    · rename_i c hb
      obtain ⟨hc, e⟩ := cond_ok e
      cases e
      refine ⟨{ fn := f, nt := fn.ntmps, tm := enter.setAll .nil 0 bs, todo := [.code c], defers := [], mode := .run, deferred := d, roundOf := none }, by simp only [enter, hfn, hb, ← g.length, hc, cond_true], ⟨rfl, rfl, setAll_rel g (fun t v e => by rw [Tr.get_nil] at e; cases e), .cons (.plain rfl) .nil, .nil, trivial, rfl, .none⟩⟩
    · cases e
  · cases e
theorem sgetLoop_rel (R : HR P h0 h H ρ sh) {l a : Nat} {r : SLoop} (hn : H.ν l = some (.obj a)) (e : sgetLoop sh l = some r) : ∃ r', getLoop h a = some r' ∧ LoopR P h H ρ r r' ∧ sh.get l = some (.loop r) ∧ h.get a = some (.loop r') := by
  unfold sgetLoop at e
  split at e
  · rename_i q hg
    cases e
    have ho := R.objs _ _ hg
    cases ho with
    | loop e1 e2 e3 =>
      rw [hn] at e1; cases e1
      exact ⟨_, by simp [getLoop, e2], e3, hg, e2⟩
  · cases e
theorem sets_rel {r : SLoop} {r' : ALoop} (hnt : r'.nt = r.nt) : ∀ {ps : List Tmp} {as_ : List SV} {bs : List AV} {x x' : Tr SV} {y : Tr AV}, SDs P h H ρ as_ bs → TmR P h H ρ x y → sroundFrame.sets r x ps as_ = some x' → ∃ y', roundFrame.sets r' y ps bs = some y' ∧ TmR P h H ρ x' y'
  | [], as_, bs, x, x', y, ga, g, e => by cases e; exact ⟨y, rfl, g⟩
  | p :: ps, [], _, x, x', y, .nil, g, e => by cases e; exact ⟨y, rfl, g⟩
  | p :: ps, a :: as_, _, x, x', y, .cons g1 g2, g, e => by
    unfold sroundFrame.sets at e
    obtain ⟨hc, e⟩ := cond_ok e
    obtain ⟨y', y1, y2⟩ := sets_rel hnt g2 (g.set p g1) e
    exact ⟨y', by simp only [roundFrame.sets, hnt, hc, cond_true, y1], y2⟩
theorem sroundFrame_rel {l a : Nat} {r : SLoop} {r' : ALoop} {as_ : List SV} {bs : List AV} {fr : SFrame} (hn : H.ν l = some (.obj a)) (gl : LoopR P h H ρ r r') (ga : SDs P h H ρ as_ bs) (e : sroundFrame l r as_ = some fr) : ∃ f', roundFrame a r' bs = some f' ∧ FR P h H ρ fr f' := by
  unfold sroundFrame at e
  obtain ⟨hc, e⟩ := cond_ok e
  split at e
  · rename_i tm htm
    cases e
    obtain ⟨y', y1, y2⟩ := sets_rel gl.nt ga gl.tm htm
    refine ⟨{ fn := r'.fn, nt := r'.nt, tm := y', todo := [.code r'.assign, .beginRound, .code r'.body], defers := [], mode := .run, deferred := false, roundOf := some a }, ?_, ⟨gl.fn, gl.nt, y2, ?_, .nil, trivial, rfl, .some hn⟩⟩
    · simp only [roundFrame, ← ga.length, gl.params, hc, cond_true, y1]
    · rw [gl.assign, gl.body]; exact .cons (.plain rfl) (.cons (.plain rfl) (.cons (.plain rfl) .nil))
  · cases e
theorem sresults_rel (R : HR P h0 h H ρ sh) {x : Tr SV} {y : Tr AV} (g : TmR P h H ρ x y) : ∀ {rs : List ResultVar} {vs : List SV} {l : List E}, sresults P sh x rs = some (vs, l) → Holds ρ l → ∃ us, aresults P h y rs = some us ∧ SDs P h H ρ vs us
  | [], vs, l, e, hl => by cases e; exact ⟨[], rfl, .nil⟩
  | .tmp t :: rs, vs, l, e, hl => by
    simp only [sresults, Option.map_eq_some_iff] at e
    obtain ⟨⟨a, b⟩, e1, e2⟩ := e
    cases e2
    obtain ⟨us, u1, u2⟩ := sresults_rel R g e1 hl
    exact ⟨_, by simp [aresults, u1], .cons (g.at t) u2⟩
  | .cell a t :: rs, vs, l, e, hl => by
    unfold sresults at e
    split at e
    · rename_i v c r h1 h2
      cases e
      rw [Holds.append] at hl
      obtain ⟨w, w1, w2⟩ := sload_rel R (g.at a) h1 hl.1
      obtain ⟨us, u1, u2⟩ := sresults_rel R g h2 hl.2
      exact ⟨w :: us, by simp only [aresults, w1, u1], .cons w2 u2⟩
    · cases e
end
end Go.Sym
/- Contracts of functions. -/
namespace Go.Sym
open Go Go.Abs
set_option linter.unusedVariables false
set_option linter.unusedSimpArgs false

/-- A value of a type, as the abstract machine holds it. -/
def PVal (P : Program) (h : Heap) (S : Nat → Prop) (t : TypeId) (x : V) (a : AV) : Prop :=
  ∃ cs, PV P h S deep t x cs ∧ ((isAggT P t = some true ∧ a = .agg cs) ∨ (isAggT P t = some false ∧ cs = [a]))
inductive ArgsR (P : Program) (h : Heap) (S : Nat → Prop) : List TypeId → List V → List AV → Prop
  | nil : ArgsR P h S [] [] []
  | cons {t : TypeId} {x : V} {a : AV} {ts : List TypeId} {xs : List V} {as_ : List AV} : PVal P h S t x a → ArgsR P h S ts xs as_ → ArgsR P h S (t :: ts) (x :: xs) (a :: as_)
def ResR (P : Program) (h : Heap) (S : Nat → Prop) (ts : List TypeId) (r : V) (us : List AV) : Prop :=
  match ts with
  | [t] => ∃ u, us = [u] ∧ PVal P h S t r u
  | ts => ∃ rs, r = .list rs ∧ ArgsR P h S ts rs us
/-- f, called with these values, returns r; nothing that was there is written. -/
def Fn (P : Program) (f : FuncId) (xs : List V) (r : V) : Prop :=
  ∀ (h : Heap) (S : Nat → Prop) (as_ : List AV) (fn : Func), P.funcs[f]? = some fn → (∀ c, S c → c < h.next) → (∀ c, h.next ≤ c → h.get c = none) → ArgsR P h S fn.params.toList xs as_ →
  ∃ g, enter P f as_ false = some g ∧ ∀ callers, ∃ gE h' us, h.next ≤ h'.next ∧ (∀ c, c < h.next → h'.get c = h.get c) ∧ (∀ c, h'.next ≤ c → h'.get c = none) ∧ ResR P h' (fun c => S c ∨ (h.next ≤ c ∧ c < h'.next)) fn.resultTypes.toList r us ∧
    gE.fn = f ∧ gE.mode = .returning ∧ gE.defers = [] ∧ gE.deferred = false ∧ aresults P h' gE.tm fn.results.toList = some us ∧ Leads P ⟨g, callers, h⟩ ⟨gE, callers, h'⟩

section
variable {P : Program} {h h' : Heap} {H : Hid} {ρ : Env} {h0 : Heap} {sh : SHeap}
theorem PVal.mono {S S' : Nat → Prop} (k : Kept h S h' S') {t : TypeId} {x : V} {a : AV} (g : PVal P h S t x a) : PVal P h' S' t x a := by
  obtain ⟨cs, g1, g2⟩ := g
  exact ⟨cs, g1.mono k, g2⟩
theorem ArgsR.mono {S S' : Nat → Prop} (k : Kept h S h' S') {ts : List TypeId} {xs : List V} {as_ : List AV} (g : ArgsR P h S ts xs as_) : ArgsR P h' S' ts xs as_ := by
  induction g with
  | nil => exact .nil
  | cons a b ih => exact .cons (a.mono k) ih

def argS (h : Heap) (H : Hid) (lend : Bool) : Nat → Prop := fun c => cond lend (c < h.next) (H.S c)
theorem argS_kept (R : HR P h0 h H ρ sh) (lend : Bool) : Kept h H.S h (argS h H lend) := by
  intro c hc
  refine ⟨?_, fun _ e => e⟩
  cases lend
  · exact hc
  · exact R.S_lt c hc
theorem argE_rel (R : HR P h0 h H ρ sh) {lend : Bool} {t : TypeId} {v : SV} {u : AV} {e : E} (g : SD P h H ρ v u) (k : argE P sh lend t v = some e) : PVal P h (argS h H lend) t (e.v ρ) u := by
  unfold argE at k
  obtain ⟨hp, k2⟩ := cond_ok k
  clear k
  have whole : ∀ {e : E}, valOf P sh deep t v.cells = some e → PVal P h (argS h H lend) t (e.v ρ) u := by
    intro e hv
    unfold packed? at hp
    split at hp
    · rename_i ht
      split at hp
      · rename_i cs
        simp only [decide_eq_true_eq] at hp
        cases g with
        | agg g =>
          obtain ⟨c, r, w1, w2⟩ := valOf_rel R hv g
          have hl := w2.length
          rw [hp] at hl
          have hl2 := g.length
          have hr : r = [] := by
            rw [w1] at hl2
            simp at hl hl2
            exact List.length_eq_zero_iff.1 (by omega)
          subst hr
          rw [List.append_nil] at w1
          subst w1
          exact ⟨_, w2.mono (argS_kept R lend), .inl ⟨ht, rfl⟩⟩
      · cases hp
    · rename_i ht
      simp only [Bool.and_eq_true, decide_eq_true_eq] at hp
      have hb : v ≠ .bad := by intro q; subst q; simp [SV.one] at hp
      have gc := g.cells' hb
      rw [g.one' hp.1] at gc
      obtain ⟨c, r, w1, w2⟩ := valOf_rel R hv gc
      have hl := w2.length
      rw [hp.2] at hl
      have hl' : c.length = 1 := by simpa using hl.symm
      cases c with
      | nil => simp at hl'
      | cons a c =>
        cases c with
        | nil => simp at w1; obtain ⟨rfl, _⟩ := w1; exact ⟨_, w2.mono (argS_kept R lend), .inr ⟨ht, rfl⟩⟩
        | cons b c => simp at hl'
    · cases hp
  split at k2
  · rename_i b
    split at k2
    · rename_i et e0 ver hg
      split at k2
      · rename_i et' hu
        obtain ⟨hc, k3⟩ := cond_ok k2
        clear k2
        cases k3
        simp only [Bool.and_eq_true] at hc
        have het := beq_tt hc.1
        subst et'
        have hfin := hc.2
        unfold packed? at hp
        have hag : isAggT P t = some false := by simp [isAggT, hu]
        rw [hag] at hp
        simp only [Bool.and_eq_true, decide_eq_true_eq] at hp
        have ho := R.objs _ _ hg
        refine ⟨[u], ⟨hp.2, ?_⟩, .inr ⟨hag, rfl⟩⟩
        rw [hu]
        cases ho with
        | arr0 q1 q2 q3 q4 =>
          cases g with
          | view q => rw [q2] at q; cases q
          | view0 q => exact ⟨_, _, rfl, q3, q4, .inl ⟨q1, rfl⟩⟩
        | arr q1 q2 q3 q4 =>
          cases g with
          | view0 q => rw [q2] at q; cases q
          | view q =>
            rw [q2] at q; cases q
            have hlen := q3.len
            subst hlen
            refine ⟨_, _, rfl, q3.size, q3.pos, .inr ⟨_, q1, .inl ⟨_, _, _, rfl, R.nu_lt _ _ _ q2 rfl, q3.get, ?_, ?_⟩⟩⟩
            · rw [q3.row.length]; omega
            · rw [List.drop_zero, List.take_of_length_le (by rw [q3.row.length]; omega)]
              exact q3.row.imp fun _ _ w => PV.fin hfin (w.mono (argS_kept R true))
      · cases k2
    · exact whole k2
  · exact whole k2
theorem argsE_rel (R : HR P h0 h H ρ sh) {lend : Bool} : ∀ {ts : List TypeId} {vs : List SV} {us : List AV} {es : List E}, SDs P h H ρ vs us → argsE P sh lend ts vs = some es → ArgsR P h (argS h H lend) ts (es.map (E.v ρ)) us
  | [], [], _, es, .nil, k => by cases k; exact .nil
  | t :: ts, v :: vs, _, es, .cons g1 g2, k => by
    unfold argsE at k
    split at k
    · rename_i e l h1 h2
      cases k
      exact .cons (argE_rel R g1 h1) (argsE_rel R g2 h2)
    · cases k
  | [], _ :: _, _, _, _, k => by cases k
  | _ :: _, [], _, _, _, k => by cases k

/-- A value that leads to no memory. -/
theorem PV.flat : ∀ {d d' : Nat} {t : TypeId} {x : V} {cs : List AV} {S S' : Nat → Prop}, slicy P d t = false → PV P h S d' t x cs → PV P h' S' d' t x cs
  | 0, _, _, _, _, _, _, e, _ => by simp [slicy] at e
  | d + 1, 0, _, _, _, _, _, _, g => g.elim
  | d + 1, d' + 1, t, x, cs, S, S', e, g => by
    obtain ⟨g0, g⟩ := g
    refine ⟨g0, ?_⟩
    unfold slicy at e
    split at g
    · exact g
    · exact g
    · exact g
    · rename_i hu; rw [hu] at e; simp at e
    · rename_i fields hu
      rw [hu] at e
      simp only [List.any_eq_false] at e
      obtain ⟨xs, a, b⟩ := g
      refine ⟨xs, a, ?_⟩
      generalize fields.toList = fs at e b
      have key : ∀ (fs : List Field) (pos : Nat) (xs : List V) (cs : List AV), (∀ f ∈ fs, ¬ slicy P d f.type = true) → PFl P (PV P h S d') fs pos xs cs → PFl P (PV P h' S' d') fs pos xs cs := by
        intro fs
        induction fs with
        | nil => intro _ _ _ _ g; exact g
        | cons f fs ih =>
          intro pos xs cs hf g
          obtain ⟨x, ys, c, r, e1, e2, o, a, b⟩ := g
          exact ⟨x, ys, c, r, e1, e2, o, PV.flat (by simpa using hf f (by simp)) a, ih _ _ _ (fun g hg => hf g (by simp [hg])) b⟩
      exact key _ _ _ _ e b
    · rename_i n et hu
      rw [hu] at e
      obtain ⟨xs, sz, a, b, c, k⟩ := g
      exact ⟨xs, sz, a, b, c, k.imp fun _ _ q => PV.flat e q⟩
    · exact g
theorem ArgsR.flat {S S' : Nat → Prop} {ts : List TypeId} {xs : List V} {us : List AV} (e : ts.any (slicy P deep) = false) (g : ArgsR P h S ts xs us) : ArgsR P h' S' ts xs us := by
  induction g with
  | nil => exact .nil
  | cons a b ih =>
    simp only [List.any_cons, Bool.or_eq_false_iff] at e
    obtain ⟨cs, g1, g2⟩ := a
    exact .cons ⟨cs, g1.flat e.1, g2⟩ (ih e.2)
theorem ResR.flat {S S' : Nat → Prop} {ts : List TypeId} {r : V} {us : List AV} (e : ts.any (slicy P deep) = false) (g : ResR P h S ts r us) : ResR P h' S' ts r us := by
  unfold ResR at g ⊢
  split at g
  · obtain ⟨u, a, cs, g1, g2⟩ := g
    simp only [List.any_cons, List.any_nil, Bool.or_false] at e
    exact ⟨u, a, cs, g1.flat e, g2⟩
  · obtain ⟨rs, a, b⟩ := g
    exact ⟨rs, a, b.flat e⟩

/-! The result, as the symbolic machine sees it. -/
theorem packS_rel {t : TypeId} {x : V} {a : AV} {cs : List SV} {v : SV} {acs : List AV} (g : SDs P h H ρ cs acs) (ha : (isAggT P t = some true ∧ a = .agg acs) ∨ (isAggT P t = some false ∧ acs = [a])) (k : packS P t cs = some v) : SD P h H ρ v a := by
  unfold packS at k
  rcases ha with ⟨h1, rfl⟩ | ⟨h1, rfl⟩
  · rw [h1] at k; cases k; exact .agg g
  · rw [h1] at k
    simp only at k
    split at k
    · cases k; cases g with | cons g _ => exact g
    · cases k
theorem PVal.cells {S : Nat → Prop} {t : TypeId} {x : V} {a : AV} (g : PVal P h S t x a) : PV P h S deep t x a.cells ∧ ((isAggT P t = some true ∧ a = .agg a.cells) ∨ (isAggT P t = some false ∧ a.cells = [a])) := by
  obtain ⟨cs, g1, ⟨h1, rfl⟩ | ⟨h1, rfl⟩⟩ := g
  · exact ⟨g1, .inl ⟨h1, rfl⟩⟩
  · have := g1.cell a (by simp)
    have hc : a.cells = [a] := by cases a <;> first | rfl | simp [AV.one] at this
    exact ⟨by rw [hc]; exact g1, .inr ⟨h1, hc⟩⟩
theorem resultsOf_rel {n : Nat} {e : E} {rs : List V} (he : e.v ρ = .list rs) : ∀ {ts : List TypeId} {j off : Nat} {xs : List V} {us : List AV} {vs : List SV} {pre : List AV}, ArgsR P h H.S ts xs us → resultsOf P n e j off ts = some vs → rs.drop j = xs → pre.length = off → H.κ n = pre ++ us.flatMap AV.cells → SDs P h H ρ vs us
  | [], j, off, _, _, vs, pre, .nil, k, _, _, _ => by cases k; exact .nil
  | t :: ts, j, off, _, _, vs, pre, .cons (x := x) (a := a) g1 g2, k, hx, hp, hκ => by
    unfold resultsOf at k
    split at k
    · rename_i cs s h1 h2
      split at k
      · rename_i v l h3 h4
        cases k
        obtain ⟨p1, p2⟩ := g1.cells
        have hxj : rs[j]? = some x := by
          have := congrArg List.head? hx
          simpa [List.head?_drop] using this
        have hlen := p1.length
        rw [h2] at hlen
        cases hlen
        have hc : SDs P h H ρ cs a.cells := by
          refine cellsOf_rel (Nat.le_refl _) (by rw [get'_v, he]; show PV P h H.S deep t ((V.list rs).get (Int.ofNat j)) a.cells; rw [V.get_list, hxj]; exact p1) h1 ?_
          intro k av hk
          simp only [avOf, hκ, List.flatMap_cons]
          rw [List.getElem?_append_right (by omega), show off + k - pre.length = k from by omega, List.getElem?_append_left (List.getElem?_eq_some_iff.1 hk).1]
          exact hk
        refine .cons (packS_rel (x := x) hc p2 h3) (resultsOf_rel he (pre := pre ++ a.cells) g2 h4 ?_ (by simp [hp]) (by rw [hκ]; simp))
        have : rs.drop (j + 1) = (rs.drop j).drop 1 := by rw [List.drop_drop]
        rw [this, hx]; rfl
      · cases k
    · cases k
theorem resultOf_rel {n : Nat} {e : E} {ts : List TypeId} {us : List AV} {v : SV} (g : ResR P h H.S ts (e.v ρ) us) (k : resultOf P n e ts = some v) (hκ : H.κ n = us.flatMap AV.cells) : SD P h H ρ v (packed us) := by
  unfold resultOf at k
  unfold ResR at g
  split at g
  · rename_i t
    obtain ⟨u, rfl, g⟩ := g
    simp only at k
    split at k
    · rename_i cs h1
      obtain ⟨p1, p2⟩ := g.cells
      have hc : SDs P h H ρ cs u.cells := by
        refine cellsOf_rel (Nat.le_refl _) p1 h1 ?_
        intro k av hk
        simp only [avOf, hκ, Nat.zero_add]
        simpa using hk
      exact packS_rel (x := e.v ρ) hc p2 k
    · cases k
  · rename_i hne
    obtain ⟨rs, hr, g⟩ := g
    split at k
    · exact absurd rfl (hne _)
    · simp only [Option.map_eq_some_iff] at k
      obtain ⟨l, k1, rfl⟩ := k
      have := resultsOf_rel hr (pre := []) g k1 rfl rfl (by simpa using hκ)
      cases g with
      | nil => cases this; exact .tuple .nil
      | cons a b =>
        cases b with
        | nil => exact absurd rfl (hne _)
        | cons _ _ => exact .tuple this
end
end Go.Sym
/- Calls by contract. -/
namespace Go.Sym
open Go Go.Abs
set_option linter.unusedVariables false
set_option linter.unusedSimpArgs false
section
variable {P : Program} {h h' : Heap} {H : Hid} {ρ : Env} {h0 : Heap} {sh : SHeap}

theorem freeze1_nv (sh : SHeap) (x : SV) : (freeze1 sh x).nv = sh.nv := by
  unfold freeze1; split
  · split <;> rfl
  · rfl
theorem freezes_nv : ∀ (l : List SV) (sh : SHeap), (freezes sh l).nv = sh.nv
  | [], _ => rfl
  | x :: l, sh => by
    show (freezes (freeze1 sh x) l).nv = _
    rw [freezes_nv l, freeze1_nv]

/-- Behind a call. -/
noncomputable def Hid.call (H : Hid) (n lo hi : Nat) (cs : List AV) : Hid :=
  { H with κ := fun m => if m = n then cs else H.κ m, S := fun c => H.S c ∨ (lo ≤ c ∧ c < hi) }
theorem HR.call (R : HR P h0 h H ρ sh) (hn : h.next ≤ h'.next) (hk : ∀ c, c < h.next → h'.get c = h.get c) (ho : ∀ c, h'.next ≤ c → h'.get c = none) (cs : List AV) :
    HExt h H h' (H.call sh.ats h.next h'.next cs) ∧ HR P h0 h' (H.call sh.ats h.next h'.next cs) ρ { sh with ats := sh.ats + 1, nv := sh.nv + 1 } := by
  have hx : HExt h H h' (H.call sh.ats h.next h'.next cs) := ⟨fun _ _ e => e, fun n j av e => by
      simp only [Hid.call]
      by_cases hm : n = sh.ats
      · subst hm; rw [R.ka _ (Nat.le_refl _)] at e; simp at e
      · rw [if_neg hm]; exact e,
    fun _ _ _ _ e => e, fun c hc => ⟨.inl hc, fun _ e => by rw [hk c (R.S_lt c hc)]; exact e⟩⟩
  refine ⟨hx, ⟨?_, R.inj, ?_, ?_, ?_, ?_, R.nu_none, ?_, ?_, R.kb, ho, R.blk_lt⟩⟩
  · intro b o e
    refine ObjR.mono hx ?_ (fun _ _ _ _ => rfl) ?_ (R.objs _ _ e)
    · intro l a n1 l1 ob g
      rw [hk a (R.nu_lt _ _ _ n1 l1)]; exact g
    · intro n hn'
      have := R.ka_lt hn'
      simp only [Hid.call]; rw [if_neg (by omega)]
  · intro b o l a e w n1 l1
    obtain ⟨q1, q2⟩ := R.ownS _ _ _ _ e w n1 l1
    have := R.nu_lt _ _ _ n1 l1
    exact ⟨fun q => q.elim q1 fun q => by omega, q2⟩
  · rintro a (q | q)
    · have := R.S_lt a q; omega
    · exact q.2
  · have := R.next; omega
  · intro c hc
    rw [hk c (by have := R.next; omega)]; exact R.keep c hc
  · intro b l a n1 l1
    have := R.nu_lt _ _ _ n1 l1; omega
  · intro n hn'
    have hn' : sh.ats + 1 ≤ n := hn'
    simp only [Hid.call]; rw [if_neg (by omega)]; exact R.ka _ (by omega)

theorem contract_rel (R : HR P h0 h H ρ sh) {f : FuncId} {as_ : List SV} {bs : List AV} {sh1 : SHeap} {es : List E} {v : SV} (g : SDs P h H ρ as_ bs) (k : scontract P sh f as_ = some (sh1, es, v)) (hf : Fn P f (es.map (E.v ρ)) (ρ.v.getD sh.nv .nil)) (callers : List AFrame) :
    sh1.nv = sh.nv + 1 ∧ ∃ fn gf gE h' H' us, P.funcs[f]? = some fn ∧ enter P f bs false = some gf ∧ HExt h H h' H' ∧ HR P h0 h' H' ρ sh1 ∧ SD P h' H' ρ v (packed us) ∧ SGrow h0 H H' ∧
      gE.fn = f ∧ gE.mode = .returning ∧ gE.defers = [] ∧ gE.deferred = false ∧ aresults P h' gE.tm fn.results.toList = some us ∧ Leads P ⟨gf, callers, h⟩ ⟨gE, callers, h'⟩ := by
  unfold scontract at k
  split at k
  · rename_i fn hfn
    simp only at k
    generalize hsl : fn.resultTypes.toList.any (slicy P deep) = sl at k
    -- the heap behind the freezing
    generalize hvw : cond sl (viewsOf as_) (innerViews as_) = vw at k
    obtain ⟨H1, x1, R1, s1⟩ := freezes_rel (P := P) vw R
    have hnv := freezes_nv vw sh
    generalize freezes sh vw = shz at k R1 hnv
    split at k
    · rename_i es' v' h1 h2
      cases k
      refine ⟨by simp [hnv], ?_⟩
      have ga := argsE_rel R1 (g.mono x1) h1
      obtain ⟨gf, f1, hf⟩ := hf h (argS h H1 (!sl)) bs fn hfn (by
        intro c hc
        cases sl
        · exact hc
        · exact R1.S_lt c hc) R1.none_ ga
      obtain ⟨gE, h', us, f2, f3, f4, f5, f6, f7, f8, f9, f10, f11⟩ := hf callers
      obtain ⟨x2, R2⟩ := R1.call f2 f3 f4 (us.flatMap AV.cells)
      refine ⟨fn, gf, gE, h', _, us, hfn, f1, x1.trans x2, R2, ?_, s1.trans ?_, f6, f7, f8, f9, f10, f11⟩
      · refine resultOf_rel (n := shz.ats) (e := .vv shz.nv) (ts := fn.resultTypes.toList) ?_ h2 (by simp [Hid.call])
        have : (E.vv shz.nv).v ρ = ρ.v.getD sh.nv .nil := by rw [hnv]; rfl
        rw [this]
        cases sl with
        | false => exact f5.flat hsl
        | true => exact f5
      · rintro a (q | q)
        · exact .inl q
        · have := R1.next; exact .inr (by omega)
    · cases k
  · cases k
end

/-! ### What a run asks for -/
def EvOk (P : Program) (ρ : Env) : Nat → List Ev → Prop
  | _, [] => True
  | nv, .ask e :: l => e.b ρ = true ∧ EvOk P ρ nv l
  | nv, .call f es :: l => Fn P f (es.map (E.v ρ)) (ρ.v.getD nv .nil) ∧ EvOk P ρ (nv + 1) l
def ncalls : List Ev → Nat
  | [] => 0
  | .ask _ :: l => ncalls l
  | .call _ _ :: l => ncalls l + 1
theorem ncalls_append : ∀ (a b : List Ev), ncalls (a ++ b) = ncalls a + ncalls b
  | [], b => by simp [ncalls]
  | .ask _ :: a, b => by simp only [List.cons_append, ncalls]; exact ncalls_append a b
  | .call _ _ :: a, b => by simp only [List.cons_append, ncalls, ncalls_append a b]; omega
theorem ncalls_asks (l : List E) : ncalls (asks l) = 0 := by
  induction l with
  | nil => rfl
  | cons a l ih => exact ih
theorem EvOk.append {P : Program} {ρ : Env} : ∀ {a b : List Ev} {nv : Nat}, EvOk P ρ nv (a ++ b) ↔ EvOk P ρ nv a ∧ EvOk P ρ (nv + ncalls a) b
  | [], b, nv => by simp [EvOk, ncalls]
  | .ask e :: a, b, nv => by simp only [List.cons_append, EvOk, ncalls, EvOk.append (a := a), and_assoc]
  | .call f es :: a, b, nv => by
    simp only [List.cons_append, EvOk, ncalls, EvOk.append (a := a), and_assoc]
    rw [show nv + (ncalls a + 1) = nv + 1 + ncalls a from by omega]
theorem EvOk.asks {P : Program} {ρ : Env} {l : List E} {nv : Nat} : EvOk P ρ nv (asks l) ↔ Holds ρ l := by
  induction l with
  | nil => exact ⟨fun _ => by intro c hc; simp at hc, fun _ => trivial⟩
  | cons a l ih =>
    show (a.b ρ = true ∧ EvOk P ρ nv (Sym.asks l)) ↔ _
    rw [ih]
    exact ⟨fun ⟨h1, h2⟩ c hc => by rcases List.mem_cons.1 hc with rfl | hc; exact h1; exact h2 c hc, fun h => ⟨h a (by simp), fun c hc => h c (by simp [hc])⟩⟩
end Go.Sym
/- One step. -/
namespace Go.Sym
open Go Go.Abs
set_option linter.unusedVariables false
set_option linter.unusedSimpArgs false

theorem leads_step {P : Program} (K : ProgOk P) {pl : Plans} {m m' : AMach} (e : astep P pl m = some m') : Leads P m m' := fun I w0 μ c cs tl w r => astep_sim K e r

section
variable {C : Cfg} {h : Heap} {H : Hid} {ρ : Env} {h0 : Heap} {S0 : Nat → Prop} {outer : List AFrame} {sh : SHeap}

def Base (h0 : Heap) (S0 : Nat → Prop) (H : Hid) : Prop := ∀ a, H.S a → S0 a ∨ h0.next ≤ a
theorem Base.grow {H' : Hid} (b : Base h0 S0 H) (g : SGrow h0 H H') : Base h0 S0 H' := fun a ha => (g a ha).elim (b a) .inr

theorem svalue_rel (R : HR C.P h0 h H ρ sh) (B : Base h0 S0 H) {fr : SFrame} {f : AFrame} {callers : List SFrame} {cs : List AFrame} {v : SV} {u : AV} {ev : List Ev} {ch : List Bool} {o : Out} {nv : Nat} (gf : FR C.P h H ρ fr f) (gc : FRs C.P h H ρ callers cs) (gv : SD C.P h H ρ v u)
    (e : svalue C fr callers sh v ev ch = some o) (hev : EvOk C.P ρ nv o.ev) :
    ∃ f', afinish C.P h f u = some f' ∧ MR C.P h0 S0 outer ρ o.m { fr := f', callers := cs ++ outer, h } ∧ o.m.h = sh ∧ ∃ l, o.ev = ev ++ asks l := by
  unfold svalue at e
  simp only [Option.map_eq_some_iff] at e
  obtain ⟨⟨fr', l⟩, e1, rfl⟩ := e
  simp only at hev
  rw [EvOk.append, EvOk.asks] at hev
  obtain ⟨f', w1, w2⟩ := sfinish_rel R rfl gf gv e1 hev.2
  exact ⟨f', w1, ⟨H, cs, rfl, w2, gc, R, B⟩, rfl, l, rfl⟩

/-- The frame goes on with what an operation has come to. What the abstract machine does first: 'pre'. -/
theorem sapply_rel (K : ProgOk C.P) (R : HR C.P h0 h H ρ sh) (B : Base h0 S0 H) {fr : SFrame} {f : AFrame} {callers : List SFrame} {cs : List AFrame} {n : SNext} {an : ANext} {args : List SV} {aargs : List AV} {ev : List Ev} {ch : List Bool} {o : Out} {m : AMach} (hm : fr.mode = .run)
    (gf : FR C.P h H ρ fr f) (gc : FRs C.P h H ρ callers cs) (gn : NextR C.P h H ρ n an) (ga : SDs C.P h H ρ args aargs) (nv0 : Nat) (hnv : sh.nv = nv0 + ncalls ev)
    (e : sapply C fr callers n sh args ev ch = some o) (hev : EvOk C.P ρ nv0 o.ev) (pre : ∀ m', apply C.P f (cs ++ outer) an h aargs = some m' → Leads C.P m m') :
    (∃ m', Leads C.P m m' ∧ MR C.P h0 S0 outer ρ o.m m') ∧ o.m.h.nv = nv0 + ncalls o.ev := by
  have val : ∀ {v : SV} {u : AV} {f : AFrame} {fr : SFrame}, FR C.P h H ρ fr f → SD C.P h H ρ v u → svalue C fr callers sh v ev ch = some o → (∀ f', afinish C.P h f u = some f' → Leads C.P m ⟨f', cs ++ outer, h⟩) → (∃ m', Leads C.P m m' ∧ MR C.P h0 S0 outer ρ o.m m') ∧ o.m.h.nv = nv0 + ncalls o.ev := by
    intro v u f fr gf gv e k
    obtain ⟨f', w1, w2, w3, l, w4⟩ := svalue_rel R B (outer := outer) (S0 := S0) gf gc gv e hev
    refine ⟨⟨_, k f' w1, w2⟩, ?_⟩
    rw [w3, w4, ncalls_append, ncalls_asks]; omega
  unfold sapply at e
  cases gn with
  | value gv =>
    exact val gf gv e fun f' hf => pre _ (by simp only [apply, hf])
  | enter gargs =>
    rename_i fn as_ bs
    simp only at e
    cases hc : C.ctr.contains fn with
    | true =>
      rw [hc] at e
      simp only [cond_true] at e
      split at e
      · rename_i sh1 es v hk
        have hev2 := hev
        unfold svalue at e
        simp only [Option.map_eq_some_iff] at e
        obtain ⟨⟨fr', l⟩, e1, rfl⟩ := e
        simp only at hev ⊢
        rw [EvOk.append, EvOk.append] at hev
        obtain ⟨⟨_, hcall, _⟩, hl⟩ := hev
        rw [EvOk.asks] at hl
        rw [← hnv] at hcall
        obtain ⟨hn1, func, gfr, gE, h', H', us, c1, c2, c3, c4, c5, c6, c7, c8, c9, c10, c11, c12⟩ := contract_rel R gargs hk hcall (f :: (cs ++ outer))
        obtain ⟨f', w1, w2⟩ := sfinish_rel c4 rfl (gf.mono c3) c5 e1 hl
        refine ⟨⟨⟨f', cs ++ outer, h'⟩, ?_, ⟨H', cs, rfl, w2, gc.mono c3, c4, B.grow c6⟩⟩, ?_⟩
        · refine (pre ⟨gfr, f :: (cs ++ outer), h⟩ (by simp only [apply, c2])).trans (c12.trans (leads_step K (pl := C.pl) ?_))
          have hfm : f.mode = .run := by have := gf.mode; rw [hm] at this; exact this.run_iff
          have ar : areturn C.P gE (f :: (cs ++ outer)) (packed us) h' = some ⟨f', cs ++ outer, h'⟩ := by
            simp only [areturn, c10, cond_false, hfm, w1]
          unfold astep
          simp only [c8]
          unfold Abs.unwind
          simp only [c9, c8, c7, c1, c11]
          cases us with
          | nil => exact ar
          | cons a b => cases b <;> exact ar
        · rw [hn1, ncalls_append, ncalls_append, ncalls_asks]; simp only [ncalls]; omega
      · cases e
    | false =>
      rw [hc] at e
      simp only [cond_false] at e
      split at e
      · rename_i g hg
        cases e
        obtain ⟨f', w1, w2⟩ := senter_rel gargs hg
        exact ⟨⟨⟨f', f :: (cs ++ outer), h⟩, pre _ (by simp only [apply, w1]), ⟨H, f :: cs, rfl, w2, .cons gf gc, R, B⟩⟩, hnv⟩
      · cases e
  | round hq =>
    rename_i l a
    simp only at e
    split at e
    · rename_i r hr
      split at e
      · rename_i func hfn
        split at e
        · rename_i g hg
          cases e
          obtain ⟨r', k1, k2, k3, k4⟩ := sgetLoop_rel R hq hr
          obtain ⟨f', w1, w2⟩ := sroundFrame_rel hq k2 ga hg
          refine ⟨⟨⟨f', f :: (cs ++ outer), h⟩, pre _ (by simp only [apply, k1, k2.fn, hfn, w1]), ⟨H, f :: cs, rfl, w2, .cons gf gc, R, B⟩⟩, hnv⟩
        · cases e
      · cases e
    · cases e
  | defer gd =>
    rename_i d d'
    simp only at e
    have gr := gf.round
    split at e
    · rename_i hro
      rw [hro] at gr
      generalize hfr : f.roundOf = fro at gr
      cases gr
      refine val (f := { f with defers := d' :: f.defers }) (fr := { fr with defers := d :: fr.defers }) ⟨gf.fn, gf.nt, gf.tm, gf.todo, .cons gd gf.defers, gf.mode, gf.deferred, gf.round⟩ (.bad .bad) e fun f' hf => pre _ ?_
      simp only [hfr] at hf
      simp only [apply, hfr, hf]
    · cases e
  | recover =>
    simp only at e
    have gr := gf.round
    split at e
    · rename_i hro
      rw [hro] at gr
      generalize hfr : f.roundOf = fro at gr
      cases gr
      split at e
      · rename_i c rest hd
        cases gc with
        | cons g1 g2 =>
          rename_i y ys
          refine val gf .nili e fun f' hf => pre _ ?_
          have hfd : f.deferred = true := by rw [gf.deferred]; exact hd
          have hm1 := g1.mode
          simp only [apply, hfr, hfd, List.cons_append]
          cases hym : y.mode with
          | run => simp only [hf]
          | returning => simp only [hf]
          | panicking q => rw [hym] at hm1; cases hcm : c.mode <;> rw [hcm] at hm1 <;> exact hm1.elim
      · cases e
    · cases e

theorem sfresh_nv {P : Program} {sh sh' : SHeap} {x : Tr SV} {o : Oper} {v : SV} {l : List E} (e : sfresh P sh x o = some (sh', v, l)) : sh'.nv = sh.nv := by
  unfold sfresh at e
  split at e
  · split at e
    · obtain ⟨_, e⟩ := cond_ok e; cases e; rfl
    · cases e
  · split at e
    · cases e
    · obtain ⟨_, e⟩ := cond_ok e; cases e; rfl
  · split at e
    · split at e
      · obtain ⟨_, e⟩ := cond_ok e
        split at e
        · cases e; exact freezes_nv _ _
        · cases e
      · cases e
    · cases e
  · split at e
    · split at e
      · obtain ⟨_, e⟩ := cond_ok e
        split at e
        · cases e; rfl
        · cases e
      · cases e
    · cases e
  · cases e
theorem sheavy_nv {P : Program} {sh sh' : SHeap} {x : Tr SV} {o : Oper} {n : SNext} {l : List E} (e : sheavy P sh x o = some (n, sh', l)) : sh'.nv = sh.nv := by
  unfold sheavy at e
  split at e
  · simp only [Option.map_eq_some_iff] at e
    obtain ⟨⟨r1, r2⟩, e1, e2⟩ := e
    simp only [Prod.mk.injEq] at e2
    obtain ⟨_, rfl, _⟩ := e2
    unfold sstore at e1
    split at e1
    · split at e1
      · split at e1
        · obtain ⟨_, e1⟩ := cond_ok e1; cases e1; rfl
        · cases e1
      · cases e1
    · simp only at e1
      split at e1
      · split at e1
        · obtain ⟨_, e1⟩ := cond_ok e1
          split at e1
          · split at e1
            · cases e1; exact freezes_nv _ _
            · cases e1
          · cases e1
        · cases e1
      · cases e1
    · cases e1
  · split at e
    · simp only [Option.map_eq_some_iff] at e
      obtain ⟨⟨r1, r2, r3⟩, e1, e2⟩ := e
      simp only [Prod.mk.injEq] at e2
      obtain ⟨_, rfl, _⟩ := e2
      unfold sappend at e1
      split at e1
      · split at e1
        · obtain ⟨_, e1⟩ := cond_ok e1
          split at e1
          · obtain ⟨_, e1⟩ := cond_ok e1
            split at e1
            · cases e1; rfl
            · split at e1
              · obtain ⟨_, e1⟩ := cond_ok e1; cases e1; rfl
              · cases e1
            · cases e1
          · cases e1
        · cases e1
      · cases e1
    · simp only [Option.map_eq_some_iff] at e
      obtain ⟨⟨r1, r2, r3⟩, e1, e2⟩ := e
      simp only [Prod.mk.injEq] at e2
      obtain ⟨_, rfl, _⟩ := e2
      unfold scopy at e1
      split at e1
      · split at e1
        · split at e1
          · split at e1
            · obtain ⟨_, e1⟩ := cond_ok e1; cases e1; rfl
            · cases e1
          · cases e1
        · cases e1
      · cases e1
    · cases e; rfl
    · cases e
  · simp only [Option.map_eq_some_iff] at e
    obtain ⟨r, e1, e2⟩ := e
    cases e2; rfl
  · split at e
    · cases e; rfl
    · cases e
  · cases e
theorem svalue_ev {fr : SFrame} {callers : List SFrame} {v : SV} {ev : List Ev} {ch : List Bool} {o : Out} (e : svalue C fr callers sh v ev ch = some o) : ∃ l, o.ev = ev ++ l := by
  unfold svalue at e
  simp only [Option.map_eq_some_iff] at e
  obtain ⟨r, _, rfl⟩ := e
  exact ⟨_, rfl⟩
theorem sapply_ev {fr : SFrame} {callers : List SFrame} {n : SNext} {args : List SV} {ev : List Ev} {ch : List Bool} {o : Out} (e : sapply C fr callers n sh args ev ch = some o) : ∃ l, o.ev = ev ++ l := by
  unfold sapply at e
  split at e
  · exact svalue_ev e
  · cases hc : C.ctr.contains _ with
    | false =>
      rw [hc] at e
      simp only [cond_false] at e
      split at e
      · cases e; exact ⟨[], by simp⟩
      · cases e
    | true =>
      rw [hc] at e
      simp only [cond_true] at e
      split at e
      · obtain ⟨l, hl⟩ := svalue_ev e
        exact ⟨_, by rw [hl, List.append_assoc]⟩
      · cases e
  · split at e
    · split at e
      · split at e
        · cases e; exact ⟨[], by simp⟩
        · cases e
      · cases e
    · cases e
  · split at e
    · exact svalue_ev e
    · cases e
  · split at e
    · split at e
      · exact svalue_ev e
      · cases e
    · cases e
theorem sdo_rel (K : ProgOk C.P) (R : HR C.P h0 h H ρ sh) (B : Base h0 S0 H) {fr : SFrame} {f : AFrame} {callers : List SFrame} {cs : List AFrame} {op : Oper} {ev : List Ev} {ch : List Bool} {o : Out} {m : AMach} {ops : Array Oper} (hm : fr.mode = .run)
    (gf : FR C.P h H ρ fr f) (gc : FRs C.P h H ρ callers cs) (hne : ncalls ev = 0)
    (e : sdo C fr callers sh op ev ch = some o) (hev : EvOk C.P ρ sh.nv o.ev) (hw : awanted ops f.tm op = some true) (pre : ∀ m', aoper C.P f (cs ++ outer) h ops op = some m' → Leads C.P m m') :
    (∃ m', Leads C.P m m' ∧ MR C.P h0 S0 outer ρ o.m m') ∧ o.m.h.nv = sh.nv + ncalls o.ev := by
  unfold sdo at e
  split at e
  · rename_i v c hs
    have hev' := hev
    have hc : Holds ρ c := by
      unfold svalue at e
      simp only [Option.map_eq_some_iff] at e
      obtain ⟨⟨fr', l⟩, e1, rfl⟩ := e
      simp only at hev
      rw [EvOk.append, EvOk.append, EvOk.asks] at hev
      exact hev.1.2
    obtain ⟨u, u1, u2⟩ := slight_rel R gf.tm hs hc
    obtain ⟨f', w1, w2, w3, l, w4⟩ := svalue_rel R B (outer := outer) (S0 := S0) gf gc u2 e hev
    refine ⟨⟨_, pre _ (by simp only [aoper, hw, u1, w1]), w2⟩, ?_⟩
    rw [w3, w4, ncalls_append, ncalls_append, ncalls_asks, ncalls_asks]; omega
  · rename_i hs
    split at e
    · rename_i sh1 v c hs1
      have hc : Holds ρ c := by
        unfold svalue at e
        simp only [Option.map_eq_some_iff] at e
        obtain ⟨⟨fr', l⟩, e1, rfl⟩ := e
        simp only at hev
        rw [EvOk.append, EvOk.append, EvOk.asks] at hev
        exact hev.1.2
      obtain ⟨ob, u, H', z1, z2, z3, z4, z5, z6⟩ := sfresh_rel R gf.tm hs1 hc
      obtain ⟨f', w1, w2, w3, l, w4⟩ := svalue_rel z4 (B.grow z6) (outer := outer) (S0 := S0) (gf.mono z3) (gc.mono z3) z5 e hev
      refine ⟨⟨_, pre _ (by simp only [aoper, hw, z1, z2, w1]), w2⟩, ?_⟩
      rw [w3, w4, ncalls_append, ncalls_append, ncalls_asks, ncalls_asks, hne]
      have := sfresh_nv hs1
      omega
    · split at e
      · rename_i n sh1 c hs1
        have hpre : ∃ l, o.ev = (ev ++ asks c) ++ l := sapply_ev e
        have hc : Holds ρ c := by
          obtain ⟨l, hl⟩ := hpre
          rw [hl, EvOk.append, EvOk.append, EvOk.asks] at hev
          exact hev.1.2
        obtain ⟨an, h', H', z1, z2, z3, z4, z5, z6, z7⟩ := sheavy_rel R gf.tm hs1 hc
        refine sapply_rel (aargs := match op.op with | .call c => c.args.toList.map (evalOp f.tm) | _ => []) K z5 (B.grow z7) hm (gf.mono z4) (gc.mono z4) z6 ?_ sh.nv ?_ e hev ?_
        · cases op.op with
          | call c => exact SDs.map fun a _ => (sEval_rel gf.tm a).mono z4
          | _ => exact .nil
        · rw [sheavy_nv hs1, ncalls_append, ncalls_asks, hne]; rfl
        · intro m' hm'
          refine pre _ ?_
          simp only [aoper, hw, z1, z2, z3]
          exact hm'
      · cases e
end
end Go.Sym
/- The steps. -/
namespace Go.Sym
open Go Go.Abs
set_option linter.unusedVariables false
set_option linter.unusedSimpArgs false
section
variable {C : Cfg} {h : Heap} {H : Hid} {ρ : Env} {h0 : Heap} {S0 : Nat → Prop} {outer : List AFrame} {sh : SHeap}

/-- What a step shows. -/
def Goes (C : Cfg) (h0 : Heap) (S0 : Nat → Prop) (outer : List AFrame) (ρ : Env) (nv : Nat) (m : AMach) (o : Out) : Prop :=
  (∃ m', Leads C.P m m' ∧ MR C.P h0 S0 outer ρ o.m m') ∧ o.m.h.nv = nv + ncalls o.ev

theorem soper_rel (K : ProgOk C.P) (R : HR C.P h0 h H ρ sh) (B : Base h0 S0 H) {fr : SFrame} {f : AFrame} {callers : List SFrame} {cs : List AFrame} {op : Oper} {ch : List Bool} {o : Out} {m : AMach} {ops : Array Oper} (hm : fr.mode = .run)
    (gf : FR C.P h H ρ fr f) (gc : FRs C.P h H ρ callers cs)
    (e : soper C fr callers sh ops op ch = some o) (hev : EvOk C.P ρ sh.nv o.ev) (pre : ∀ m', aoper C.P f (cs ++ outer) h ops op = some m' → Leads C.P m m') : Goes C h0 S0 outer ρ sh.nv m o := by
  unfold soper at e
  split at e
  · rename_i hg
    exact sdo_rel K R B hm gf gc rfl e hev (sguard_known gf.tm hg) pre
  · rename_i hg
    obtain ⟨f', w1, w2, w3, l, w4⟩ := svalue_rel R B (outer := outer) (S0 := S0) gf gc (.tuple .nil) e hev
    refine ⟨⟨_, pre _ (by simp only [aoper, sguard_known gf.tm hg, w1]), w2⟩, ?_⟩
    rw [w3, w4, ncalls_append, ncalls_asks]; rfl
  · rename_i d e0 want hg
    split at e
    · rename_i c ch'
      obtain ⟨g1, g2⟩ := sguard_open gf.tm hg
      have gf' : e0.b ρ = c → FR C.P h H ρ { fr with tm := fr.tm.set d (.bool (.bl c)) } f := fun hc =>
        ⟨gf.fn, gf.nt, gf.tm.over d (by rw [g2, hc]; exact .bool (.bl c)), gf.todo, gf.defers, gf.mode, gf.deferred, gf.round⟩
      have hcond : (cond c e0 e0.not').b ρ = true → e0.b ρ = c := by
        intro hq
        cases c
        · simp only [cond_false, not'_b, Bool.not_eq_true'] at hq; exact hq
        · exact hq
      cases hcw : (c == want) with
      | true =>
        rw [hcw] at e
        simp only [cond_true] at e
        have hq : (cond c e0 e0.not').b ρ = true := by
          have : ∃ l, o.ev = [Ev.ask (cond c e0 e0.not')] ++ l := by
            unfold sdo at e
            split at e
            · obtain ⟨l, hl⟩ := svalue_ev e; exact ⟨_, by rw [hl, List.append_assoc]⟩
            · split at e
              · obtain ⟨l, hl⟩ := svalue_ev e; exact ⟨_, by rw [hl, List.append_assoc]⟩
              · split at e
                · obtain ⟨l, hl⟩ := sapply_ev e; exact ⟨_, by rw [hl, List.append_assoc]⟩
                · cases e
          obtain ⟨l, hl⟩ := this
          rw [hl, EvOk.append] at hev
          exact hev.1.1
        have hc := hcond hq
        exact sdo_rel (fr := { fr with tm := fr.tm.set d (.bool (.bl c)) }) K R B hm (gf' hc) gc rfl e hev (by rw [g1, hc, hcw]) pre
      | false =>
        rw [hcw] at e
        simp only [cond_false] at e
        have hq : (cond c e0 e0.not').b ρ = true := by
          obtain ⟨l, hl⟩ := svalue_ev e
          rw [hl, EvOk.append] at hev
          exact hev.1.1
        have hc := hcond hq
        obtain ⟨f', w1, w2, w3, l, w4⟩ := svalue_rel (fr := { fr with tm := fr.tm.set d (.bool (.bl c)) }) R B (outer := outer) (S0 := S0) (gf' hc) gc (.tuple .nil) e hev
        refine ⟨⟨_, pre _ (by simp only [aoper, g1, hc, hcw, w1]), w2⟩, ?_⟩
        rw [w3, w4, ncalls_append, ncalls_asks]; rfl
    · cases e
  · cases e

theorem sreturn_rel (R : HR C.P h0 h H ρ sh) (B : Base h0 S0 H) {fr : SFrame} {f : AFrame} {callers : List SFrame} {cs : List AFrame} {v : SV} {u : AV} {ch : List Bool} {o : Out} {m : AMach} (hd : f.deferred = fr.deferred)
    (gc : FRs C.P h H ρ callers cs) (gv : SD C.P h H ρ v u) (e : sreturn C fr callers v sh ch = some o) (hev : EvOk C.P ρ sh.nv o.ev) (pre : ∀ m', areturn C.P f (cs ++ outer) u h = some m' → Leads C.P m m') : Goes C h0 S0 outer ρ sh.nv m o := by
  unfold sreturn at e
  cases gc with
  | nil => cases e
  | cons g1 g2 =>
    rename_i c y rest ys
    simp only at e
    have gm := g1.mode
    cases hdf : fr.deferred with
    | true =>
      rw [hdf] at e hd
      simp only [cond_true] at e
      split at e
      · cases e
      · rename_i hcm
        cases e
        rw [hcm] at gm
        have hym := gm.ret_iff
        refine ⟨⟨⟨y, ys ++ outer, h⟩, pre _ ?_, ⟨H, ys, rfl, g1, g2, R, B⟩⟩, rfl⟩
        simp only [areturn, List.cons_append, hd, cond_true, hym]
    | false =>
      rw [hdf] at e hd
      simp only [cond_false] at e
      split at e
      · rename_i hcm
        rw [hcm] at gm
        have hym := gm.run_iff
        obtain ⟨f', w1, w2, w3, l, w4⟩ := svalue_rel R B (outer := outer) (S0 := S0) g1 g2 gv e hev
        refine ⟨⟨_, pre _ ?_, w2⟩, ?_⟩
        · simp only [areturn, List.cons_append, hd, cond_false, hym, w1]
        · rw [w3, w4, ncalls_append, ncalls_asks]; rfl
      · cases e

theorem LoopR.with {P : Program} {r : SLoop} {r' : ALoop} (g : LoopR P h H ρ r r') (s : LoopState) (p : Option Code) : LoopR P h H ρ { r with state := s, pending := p } { r' with state := s, pending := p } :=
  ⟨rfl, rfl, g.fn, g.nt, g.tm, g.params, g.assign, g.body, g.defers⟩
theorem LoopR.with1 {P : Program} {r : SLoop} {r' : ALoop} (g : LoopR P h H ρ r r') (s : LoopState) : LoopR P h H ρ { r with state := s } { r' with state := s } :=
  ⟨rfl, g.pending, g.fn, g.nt, g.tm, g.params, g.assign, g.body, g.defers⟩
/-- An object that is no block of elements is written. -/
theorem setObj_rel {P : Program} (R : HR P h0 h H ρ sh) {l a : Nat} {o0 o : SObj} {ob : AObj} (hg : sh.get l = some o0) (ho0 : own o0 = true) (ho1 : own o = true) (hn : H.ν l = some (.obj a)) (ho : ∀ H', HExt h H (h.set a ob) H' → H'.ν l = some (.obj a) → ObjR P (h.set a ob) H' ρ l o) :
    ∃ H', HExt h H (h.set a ob) H' ∧ HR P h0 (h.set a ob) H' ρ (sh.set l o) ∧ SGrow h0 H H' := by
  obtain ⟨x1, R1⟩ := R.upd (o := o) (ob := ob) (acs := []) (sh' := sh.set l o) hg ho0 ho1 hn rfl rfl rfl (.inl ⟨rfl, rfl⟩) (fun x => ho _ x hn)
  exact ⟨_, x1, R1, fun a ha => .inl ha⟩

theorem sleave_rel (K : ProgOk C.P) (R : HR C.P h0 h H ρ sh) (B : Base h0 S0 H) {fr : SFrame} {f : AFrame} {callers : List SFrame} {cs : List AFrame} {jump : Option Code} {ch : List Bool} {o : Out} {m : AMach}
    (gf : FR C.P h H ρ fr f) (gc : FRs C.P h H ρ callers cs) (e : sleave C fr callers sh jump ch = some o) (hev : EvOk C.P ρ sh.nv o.ev) (pre : ∀ m', aleave C.P f (cs ++ outer) h jump = some m' → Leads C.P m m') : Goes C h0 S0 outer ρ sh.nv m o := by
  unfold sleave at e
  have gr := gf.round
  generalize hfr : f.roundOf = fro at gr
  split at e
  · rename_i hro
    rw [hro] at gr
    cases gr
    have done : ∀ {x : Option Out}, x = some { m := { fr := { fr with mode := .returning }, callers, h := sh }, ev := [], ch } → some o = x → (∀ m', aleave C.P f (cs ++ outer) h jump = some m' → Leads C.P m m') → aleave C.P f (cs ++ outer) h jump = some { fr := { f with mode := .returning }, callers := cs ++ outer, h } → Goes C h0 S0 outer ρ sh.nv m o := by
      intro x h1 h2 h3 h4
      rw [h1] at h2; cases h2
      exact ⟨⟨_, h3 _ h4, ⟨H, cs, rfl, ⟨gf.fn, gf.nt, gf.tm, gf.todo, gf.defers, trivial, gf.deferred, gf.round⟩, gc, R, B⟩⟩, rfl⟩
    split at e
    · exact done rfl e.symm pre (by simp only [aleave, hfr])
    · exact done rfl e.symm pre (by simp only [aleave, hfr])
    · cases e
  · rename_i l hro
    rw [hro] at gr
    cases gr with
    | some hn =>
      rename_i a
      split at e
      · rename_i r hr
        obtain ⟨r', k1, k2, k3, k4⟩ := sgetLoop_rel R hn hr
        cases hdf : fr.deferred with
        | true => rw [hdf] at e; cases e
        | false =>
          rw [hdf] at e
          simp only [cond_false] at e
          obtain ⟨H', x1, R1, s1⟩ := setObj_rel R (o := .loop { r with state := if jump.isNone then .ready else .done, pending := jump }) (ob := .loop { r' with state := if jump.isNone then .ready else .done, pending := jump }) k3 rfl rfl hn
            (fun H' x hn' => .loop hn' (by rw [Heap.get_set]; simp) ((k2.with _ _).mono x))
          have hd : f.deferred = false := by rw [gf.deferred, hdf]
          refine sreturn_rel (f := f) (u := .bool jump.isNone) R1 (B.grow s1) (by rw [hd, hdf]) (gc.mono x1) (.bool (.bl jump.isNone)) e hev fun m' hm' => pre _ ?_
          simp only [aleave, hfr, k1, hd, cond_false]
          exact hm'
      · cases e

theorem aexitTo_rel {id : Nat} : ∀ {k : List AItem} {ka : List AItem}, ItsR H k ka → (match aexitTo id k with | some r => ∃ ra, aexitTo id ka = some ra ∧ ItsR H r ra | none => aexitTo id ka = none)
  | [], _, .nil => rfl
  | x :: k, _, .cons (y := y) (ys := ys) g1 g2 => by
    have ih := aexitTo_rel (id := id) g2
    cases g1 with
    | same _ hx =>
      cases x with
      | inBlock n =>
        simp only [aexitTo]
        cases hb : Nat.beq n id with
        | true => simp only [cond_true]; exact ⟨_, rfl, g2⟩
        | false => simp only [cond_false]; exact ih
      | _ => simp only [aexitTo]; exact ih
    | inRangeFunc q => simp only [aexitTo]; exact ih
    | endRangeFunc q => simp only [aexitTo]; exact ih

theorem sexec_rel (K : ProgOk C.P) (R : HR C.P h0 h H ρ sh) (B : Base h0 S0 H) {fr : SFrame} {f : AFrame} {callers : List SFrame} {cs : List AFrame} {ch : List Bool} {o : Out} {m : AMach} (hm : fr.mode = .run)
    (gf : FR C.P h H ρ fr f) (gc : FRs C.P h H ρ callers cs)
    (e : sexec C fr callers sh ch = some o) (hev : EvOk C.P ρ sh.nv o.ev) (pre : ∀ m', exec C.P C.pl f (cs ++ outer) h = some m' → Leads C.P m m') : Goes C h0 S0 outer ρ sh.nv m o := by
  have gt := gf.todo
  generalize hft : f.todo = ft at gt
  have to : ∀ {todo todo' : List AItem} {o : Out}, ItsR H todo todo' → some { m := { fr := { fr with todo }, callers, h := sh }, ev := [], ch } = some o → exec C.P C.pl f (cs ++ outer) h = some { fr := { f with todo := todo' }, callers := cs ++ outer, h } → Goes C h0 S0 outer ρ sh.nv m o := by
    intro todo todo' o gi e ha
    cases e
    exact ⟨⟨_, pre _ ha, ⟨H, cs, rfl, ⟨gf.fn, gf.nt, gf.tm, gi, gf.defers, gf.mode, gf.deferred, gf.round⟩, gc, R, B⟩⟩, rfl⟩
  unfold sexec at e
  simp only at e
  split at e
  · -- nothing left
    rename_i htd
    rw [htd] at gt
    cases gt
    exact sleave_rel K R B gf gc e hev fun m' hm' => pre _ (by simp only [exec, hft]; exact hm')
  · rename_i c k htd
    rw [htd] at gt
    cases gt with
    | cons g1 g2 =>
    rename_i y ys
    have hy : y = .code c := by cases g1; rfl
    subst hy
    split at e
    · exact sleave_rel K R B gf gc e hev fun m' hm' => pre _ (by simp only [exec, hft]; exact hm')
    · exact to g2 e (by simp only [exec, hft])
    · exact to g2 e (by simp only [exec, hft])
    · exact to (.cons (.plain rfl) (.cons (.plain rfl) g2)) e (by simp only [exec, hft])
    · rename_i c thn els
      have gcv := sEval_rel gf.tm c
      split at e
      · rename_i b hq
        rw [hq] at gcv
        exact to (.cons (.plain rfl) g2) e (by simp only [exec, hft, gcv.toBool]; rfl)
      · rename_i e0 hne hq
        rw [hq] at gcv
        split at e
        · rename_i b ch'
          cases e
          obtain ⟨hb, _⟩ := hev
          have hb' : e0.b ρ = b := by
            cases b
            · simp only [cond_false, not'_b, Bool.not_eq_true'] at hb; exact hb
            · exact hb
          refine ⟨⟨{ fr := { f with todo := .code (cond b thn els) :: ys }, callers := cs ++ outer, h }, pre _ ?_, ⟨H, cs, rfl, ⟨gf.fn, gf.nt, gf.tm, .cons (.plain rfl) g2, gf.defers, gf.mode, gf.deferred, gf.round⟩, gc, R, B⟩⟩, rfl⟩
          simp only [exec, hft, gcv.toBool, hb']
        · cases e
      · cases e
    · exact to (.cons (.plain rfl) (.cons (.plain rfl) g2)) e (by simp only [exec, hft])
    · exact to (.cons (.plain rfl) (.cons (.plain rfl) g2)) e (by simp only [exec, hft])
    · exact to (.cons (.plain rfl) (.cons (.plain rfl) g2)) e (by simp only [exec, hft])
    · rename_i id
      have ha := aexitTo_rel (id := id) g2
      split at e
      · rename_i k' hk
        rw [hk] at ha
        obtain ⟨ra, h1, h2⟩ := ha
        exact to h2 e (by simp only [exec, hft, h1])
      · rename_i hk
        rw [hk] at ha
        simp only at ha
        exact sleave_rel K R B gf gc e hev fun m' hm' => pre _ (by simp only [exec, hft, ha]; exact hm')
    · exact to (.cons (.plain rfl) g2) e (by simp only [exec, hft])
    · rename_i id ops
      split at e
      · rename_i l hl
        split at e
        · rename_i p hp
          obtain ⟨hok, e⟩ := cond_ok e
          exact to (.cons (.plain rfl) g2) e (by simp only [exec, hft, gf.fn, hl, hp, hok, cond_true])
        · cases e
      · cases e
    · -- a loop over a function
      rename_i fo params assign body
      have gr := gf.round
      generalize hfr : f.roundOf = fro at gr
      have newLoop : ∀ {h : Heap} {H : Hid} {sh : SHeap} {d a : Nat}, HR C.P h0 h H ρ sh → FR C.P h H ρ fr f → H.ν d = some (.obj a) →
          ∃ H', HExt h H (h.new (.loop { state := .ready, pending := none, fn := f.fn, nt := f.nt, tm := f.tm, params, assign, body, defers := a })) H' ∧ HR C.P h0 (h.new (.loop { state := .ready, pending := none, fn := f.fn, nt := f.nt, tm := f.tm, params, assign, body, defers := a })) H' ρ (sh.new (.loop { state := .ready, pending := none, fn := fr.fn, nt := fr.nt, tm := fr.tm, params, assign, body, defers := d })) ∧ H'.ν sh.next = some (.obj h.next) ∧ SGrow h0 H H' := by
        intro h H sh d a R gf hd
        obtain ⟨x1, R1⟩ := R.new (o := .loop { state := .ready, pending := none, fn := fr.fn, nt := fr.nt, tm := fr.tm, params, assign, body, defers := d }) (ob := .loop { state := .ready, pending := none, fn := f.fn, nt := f.nt, tm := f.tm, params, assign, body, defers := a }) (l := .obj h.next) (acs := []) rfl
          (fun x => .loop (a := h.next) (y := { state := .ready, pending := none, fn := f.fn, nt := f.nt, tm := f.tm, params, assign, body, defers := a }) (by simp [Hid.new]) (by rw [Heap.get_new]; simp) ⟨rfl, rfl, gf.fn, gf.nt, gf.tm.mono x, rfl, rfl, rfl, x.nu _ _ hd⟩)
        exact ⟨_, x1, R1, by simp [Hid.new], fun a ha => .inl ha⟩
      split at e
      · rename_i hro
        rw [hro] at gr
        cases gr
        split at e
        · rename_i n hn
          obtain ⟨x1, R1⟩ := R.new (o := .deferred (some [])) (ob := .deferred (some [])) (l := .obj h.next) (acs := []) rfl
            (fun x => .deferred (a := h.next) (y := some []) (by simp [Hid.new]) (by rw [Heap.get_new]; simp) .nil)
          have hd : (H.new sh.next (.obj h.next) []).ν sh.next = some (.obj h.next) := by simp [Hid.new]
          obtain ⟨H2, x2, R2, n2, s2⟩ := newLoop R1 (gf.mono x1) hd
          have xx := x1.trans x2
          have gy : ∀ h' : Heap, SDs C.P h' H2 ρ [.yieldf (sh.new (.deferred (some []))).next] [.yieldf (h.new (.deferred (some []))).next] := fun _ => .cons (.yieldf n2) .nil
          obtain ⟨an, a1, a2⟩ := scall_rel (sEval_rel (gf.mono xx).tm fo) (gy _) hn
          refine sapply_rel K R2 ((B.grow (fun a ha => Or.inl ha)).grow s2) (by exact hm) (f := { f with todo := .inRangeFunc (h.new (.deferred (some []))).next :: ys, defers := { tgt := .collected h.next, args := [] } :: f.defers }) ?_ (gc.mono xx) a2 (gy _) sh.nv rfl e hev fun m' hm' => pre _ ?_
          · have gm := gf.mono xx
            exact ⟨gm.fn, gm.nt, gm.tm, .cons (.inRangeFunc n2) (g2.mono xx), .cons (.collected (x2.nu _ _ hd) .nil) gm.defers, gm.mode, gm.deferred, gm.round⟩
          · simp only [exec, hft, hfr, a1]
            simp only [hfr] at hm'
            exact hm'
        · cases e
      · rename_i outr hro
        rw [hro] at gr
        cases gr with
        | some hq =>
        split at e
        · rename_i r hr
          obtain ⟨r', k1, k2, k3, k4⟩ := sgetLoop_rel R hq hr
          split at e
          · rename_i n hn
            obtain ⟨H2, x2, R2, n2, s2⟩ := newLoop R gf k2.defers
            have gy : ∀ h' : Heap, SDs C.P h' H2 ρ [.yieldf sh.next] [.yieldf h.next] := fun _ => .cons (.yieldf n2) .nil
            obtain ⟨an, a1, a2⟩ := scall_rel (sEval_rel (gf.mono x2).tm fo) (gy _) hn
            refine sapply_rel K R2 (B.grow s2) (by exact hm) (f := { f with todo := .inRangeFunc h.next :: ys }) ?_ (gc.mono x2) a2 (gy _) sh.nv rfl e hev fun m' hm' => pre _ ?_
            · have gm := gf.mono x2
              exact ⟨gm.fn, gm.nt, gm.tm, .cons (.inRangeFunc n2) (g2.mono x2), gm.defers, gm.mode, gm.deferred, gm.round⟩
            · simp only [exec, hft, hfr, k1, a1]
              simp only [hfr] at hm'
              exact hm'
          · cases e
        · cases e
    · cases e
  · rename_i id k htd
    rw [htd] at gt
    cases gt with | cons g1 g2 =>
    have hy := g1
    cases hy
    exact to g2 e (by simp only [exec, hft])
  · rename_i id k htd
    rw [htd] at gt
    cases gt with | cons g1 g2 =>
    cases g1
    exact to g2 e (by simp only [exec, hft])
  · rename_i body k htd
    rw [htd] at gt
    cases gt with | cons g1 g2 =>
    cases g1
    exact to (.cons (.plain rfl) (.cons (.plain rfl) g2)) e (by simp only [exec, hft])
  · rename_i ops i k htd
    rw [htd] at gt
    cases gt with | cons g1 g2 =>
    have := g1.reg; subst this
    exact to g2 e (by simp only [exec, hft])
  · rename_i ops i op rest k htd
    rw [htd] at gt
    cases gt with | cons g1 g2 =>
    have := g1.reg; subst this
    exact soper_rel K R B hm gf gc e hev fun m' hm' => pre _ (by simp only [exec, hft]; exact hm')
  · rename_i ops k htd
    rw [htd] at gt
    cases gt with | cons g1 g2 =>
    have := g1.dreg; subst this
    exact to g2 e (by simp only [exec, hft])
  · rename_i ops i chk rest k htd
    rw [htd] at gt
    cases gt with | cons g1 g2 =>
    have := g1.dreg; subst this
    split at e
    · rename_i op hop
      exact soper_rel K R B hm gf gc e hev fun m' hm' => pre _ (by simp only [exec, hft, hop]; exact hm')
    · cases e
  · cases e
  · rename_i k htd
    rw [htd] at gt
    cases gt with | cons g1 g2 =>
    rename_i y0 ys
    cases g1
    have gr := gf.round
    generalize hfr : f.roundOf = fro at gr
    split at e
    · rename_i l hro
      rw [hro] at gr
      cases gr with
      | some hq =>
      rename_i a
      split at e
      · rename_i r hr
        obtain ⟨r', k1, k2, k3, k4⟩ := sgetLoop_rel R hq hr
        split at e
        · rename_i hst
          cases e
          obtain ⟨H', x1, R1, s1⟩ := setObj_rel R (o := .loop { r with state := .busy }) (ob := .loop { r' with state := .busy }) k3 rfl rfl hq
            (fun H' x hn' => .loop hn' (by rw [Heap.get_set]; simp) ((k2.with1 _).mono x))
          have gm := gf.mono x1
          refine ⟨⟨{ fr := { f with todo := ys }, callers := cs ++ outer, h := h.set a (.loop { r' with state := .busy }) }, pre _ ?_, ⟨H', cs, rfl, ⟨gm.fn, gm.nt, gm.tm, g2.mono x1, gm.defers, gm.mode, gm.deferred, gm.round⟩, gc.mono x1, R1, B.grow s1⟩⟩, rfl⟩
          simp only [exec, hft, hfr, k1, k2.state, hst]
        · cases e
      · cases e
    · cases e
  · rename_i l k htd
    rw [htd] at gt
    cases gt with | cons g1 g2 =>
    rename_i ys
    cases g1 with
    | same _ q => exact absurd rfl (q l).2
    | endRangeFunc hq =>
    rename_i a
    split at e
    · rename_i r hr
      obtain ⟨r', k1, k2, k3, k4⟩ := sgetLoop_rel R hq hr
      split at e
      · cases e
      · rename_i hst
        cases e
        obtain ⟨H', x1, R1, s1⟩ := setObj_rel R (o := .loop { r with state := .exhausted }) (ob := .loop { r' with state := .exhausted }) k3 rfl rfl hq
          (fun H' x hn' => .loop hn' (by rw [Heap.get_set]; simp) ((k2.with1 _).mono x))
        have gm := gf.mono x1
        refine ⟨⟨{ fr := { f with todo := match r'.pending with | some c => .code c :: ys | none => ys }, callers := cs ++ outer, h := h.set a (.loop { r' with state := .exhausted }) }, pre _ ?_, ⟨H', cs, rfl, ⟨gm.fn, gm.nt, gm.tm, ?_, gm.defers, gm.mode, gm.deferred, gm.round⟩, gc.mono x1, R1, B.grow s1⟩⟩, rfl⟩
        · have : r'.state ≠ .busy := by rw [k2.state]; exact hst
          simp only [exec, hft, k1]
          cases hs : r'.state <;> first | rfl | exact absurd hs this
        · rw [k2.pending]
          cases r.pending with
          | none => exact g2.mono x1
          | some c => exact .cons (.plain rfl) (g2.mono x1)
    · cases e
end
end Go.Sym
/- Runs. -/
namespace Go.Sym
open Go Go.Abs
set_option linter.unusedVariables false
set_option linter.unusedSimpArgs false
section
variable {C : Cfg} {h : Heap} {H : Hid} {ρ : Env} {h0 : Heap} {S0 : Nat → Prop} {outer : List AFrame} {sh : SHeap}

theorem DefsR.append {P : Program} {a b : List SDef} {c d : List ADef} (g : DefsR P h H ρ a c) (k : DefsR P h H ρ b d) : DefsR P h H ρ (a ++ b) (c ++ d) := by
  induction g with
  | nil => exact k
  | cons x _ ih => exact .cons x ih
theorem sunwind_rel (K : ProgOk C.P) (R : HR C.P h0 h H ρ sh) (B : Base h0 S0 H) {fr : SFrame} {f : AFrame} {callers : List SFrame} {cs : List AFrame} {ch : List Bool} {o : Out} {m : AMach} (hm : fr.mode = .returning)
    (gf : FR C.P h H ρ fr f) (gc : FRs C.P h H ρ callers cs)
    (e : sunwind C fr callers sh ch = some o) (hev : EvOk C.P ρ sh.nv o.ev) (pre : ∀ m', Abs.unwind C.P f (cs ++ outer) h = some m' → Leads C.P m m') : Goes C h0 S0 outer ρ sh.nv m o := by
  have gd := gf.defers
  generalize hfd : f.defers = fd at gd
  have hfm : f.mode = .returning := by have := gf.mode; rw [hm] at this; exact this.ret_iff
  unfold sunwind at e
  split at e
  · rename_i r as_ ds hds
    rw [hds] at gd
    cases gd with
    | cons g1 g2 =>
      cases g1 with
      | collected hr gargs =>
        rename_i us a u
        split at e
        · rename_i calls hg
          cases e
          have ho := R.objs _ _ hg
          cases ho with
          | deferred e1 e2 e3 =>
            rename_i y a'
            rw [hr] at e1; cases e1
            cases y with
            | none => exact e3.elim
            | some calls' =>
              simp only at e3
              obtain ⟨H', x1, R1, s1⟩ := setObj_rel R (o := .deferred none) (ob := .deferred none) hg rfl rfl hr
                (fun H' x hn' => .deferred (y := none) hn' (by rw [Heap.get_set]; simp) trivial)
              have gm := gf.mono x1
              refine ⟨⟨{ fr := { f with defers := calls' ++ us }, callers := cs ++ outer, h := h.set a (.deferred none) }, pre _ ?_, ⟨H', cs, rfl, ⟨gm.fn, gm.nt, gm.tm, gm.todo, (e3.append g2).mono x1, gm.mode, gm.deferred, gm.round⟩, gc.mono x1, R1, B.grow s1⟩⟩, rfl⟩
              unfold Abs.unwind
              simp only [hfd, e2]
        · cases e
  · rename_i fn as_ ds hds
    rw [hds] at gd
    cases gd with
    | cons g1 g2 =>
      cases g1 with
      | func gargs =>
        rename_i us u
        split at e
        · rename_i g hg
          cases e
          obtain ⟨f', w1, w2⟩ := senter_rel gargs hg
          refine ⟨⟨{ fr := f', callers := { f with defers := us } :: (cs ++ outer), h }, pre _ ?_, ⟨H, { f with defers := us } :: cs, rfl, w2, .cons ⟨gf.fn, gf.nt, gf.tm, gf.todo, g2, gf.mode, gf.deferred, gf.round⟩ gc, R, B⟩⟩, rfl⟩
          unfold Abs.unwind
          simp only [hfd, w1]
        · cases e
  · rename_i hds
    rw [hds] at gd
    cases gd
    split at e
    · rename_i fn hfn
      have hfn' : C.P.funcs[f.fn]? = some fn := by rw [gf.fn]; exact hfn
      have fin : ∀ {vs : List SV} {c : List E} {v : SV} {us : List AV}, Holds ρ c → aresults C.P h f.tm fn.results.toList = some us → SD C.P h H ρ v (packed us) → (sreturn C fr callers v sh ch).map (fun o => { o with ev := asks c ++ o.ev }) = some o → Goes C h0 S0 outer ρ sh.nv m o := by
        intro vs c v us hc hr gv e
        simp only [Option.map_eq_some_iff] at e
        obtain ⟨o', e1, rfl⟩ := e
        simp only at hev
        rw [EvOk.append, ncalls_asks] at hev
        obtain ⟨p1, p2⟩ := sreturn_rel R B (outer := outer) (S0 := S0) (m := m) gf.deferred gc gv e1 (by simpa using hev.2) fun m' hm' => pre _ (by
          unfold Abs.unwind
          simp only [hfd, hfm, hfn', hr]
          cases us with
          | nil => exact hm'
          | cons a b => cases b <;> exact hm')
        refine ⟨p1, ?_⟩
        simp only [ncalls_append, ncalls_asks]
        omega
      split at e
      · rename_i v c hr
        have hc : Holds ρ c := by
          simp only [Option.map_eq_some_iff] at e
          obtain ⟨o', e1, rfl⟩ := e
          simp only at hev
          rw [EvOk.append, EvOk.asks] at hev
          exact hev.1
        obtain ⟨us, u1, u2⟩ := sresults_rel R gf.tm hr hc
        cases u2 with
        | cons a b => cases b; exact fin (vs := [v]) hc u1 a e
      · rename_i vs c hne hr
        have hc : Holds ρ c := by
          simp only [Option.map_eq_some_iff] at e
          obtain ⟨o', e1, rfl⟩ := e
          simp only at hev
          rw [EvOk.append, EvOk.asks] at hev
          exact hev.1
        obtain ⟨us, u1, u2⟩ := sresults_rel R gf.tm hr hc
        refine fin (vs := vs) hc u1 ?_ e
        cases u2 with
        | nil => exact .tuple .nil
        | cons a b =>
          cases b with
          | nil => exact (hne _ rfl).elim
          | cons c d => exact .tuple (.cons a (.cons c d))
      · cases e
    · cases e

theorem sstep_rel (K : ProgOk C.P) {s : SMach} {m : AMach} {ch : List Bool} {o : Out} (g : MR C.P h0 S0 outer ρ s m) (e : sstep C s ch = some o) (hev : EvOk C.P ρ s.h.nv o.ev) : Goes C h0 S0 outer ρ s.h.nv m o := by
  obtain ⟨H, cs, h1, h2, h3, h4, h5⟩ := g
  obtain ⟨f, callers, h⟩ := m
  simp only at h1 h2 h3 h4
  subst h1
  unfold sstep at e
  cases hm : s.fr.mode with
  | run =>
    rw [hm] at e
    refine sexec_rel K h4 h5 hm h2 h3 e hev fun m' hm' => leads_step K (pl := C.pl) ?_
    have : f.mode = .run := by have := h2.mode; rw [hm] at this; exact this.run_iff
    unfold astep
    simp only [this]
    exact hm'
  | returning =>
    rw [hm] at e
    refine sunwind_rel K h4 h5 hm h2 h3 e hev fun m' hm' => leads_step K (pl := C.pl) ?_
    have : f.mode = .returning := by have := h2.mode; rw [hm] at this; exact this.ret_iff
    unfold astep
    simp only [this]
    exact hm'

theorem srun_acc : ∀ (n : Nat) (s : SMach) (ch : List Bool) (a : List Ev), srun C n s ch a = (srun C n s ch []).map fun r => (r.1, a ++ r.2.1, r.2.2)
  | 0, s, ch, a => by simp [srun]
  | n + 1, s, ch, a => by
    unfold srun
    cases ho : sstep C s ch with
    | none => rfl
    | some o =>
      simp only [List.nil_append]
      rw [srun_acc n o.m o.ch (a ++ o.ev), srun_acc n o.m o.ch o.ev]
      cases srun C n o.m o.ch [] with
      | none => rfl
      | some r => simp
theorem srun_ev {n : Nat} {s z : SMach} {ch ch' : List Bool} {ev ev' : List Ev} (e : srun C n s ch ev = some (z, ev', ch')) : ∃ l, ev' = ev ++ l ∧ srun C n s ch [] = some (z, l, ch') := by
  rw [srun_acc] at e
  simp only [Option.map_eq_some_iff] at e
  obtain ⟨⟨z', l, c'⟩, e1, e2⟩ := e
  cases e2
  exact ⟨l, rfl, e1⟩
theorem srun_rel (K : ProgOk C.P) : ∀ (n : Nat) {s z : SMach} {m : AMach} {ch ch' : List Bool} {ev : List Ev}, MR C.P h0 S0 outer ρ s m → srun C n s ch [] = some (z, ev, ch') → EvOk C.P ρ s.h.nv ev → ∃ m', Leads C.P m m' ∧ MR C.P h0 S0 outer ρ z m'
  | 0, s, z, m, ch, ch', ev, g, e, hev => by cases e; exact ⟨m, Leads.refl m, g⟩
  | n + 1, s, z, m, ch, ch', ev, g, e, hev => by
    unfold srun at e
    cases ho : sstep C s ch with
    | none => rw [ho] at e; cases e
    | some o =>
      rw [ho] at e
      simp only [List.nil_append] at e
      obtain ⟨l, h1, h2⟩ := srun_ev e
      rw [h1, EvOk.append] at hev
      obtain ⟨⟨m1, k1, k2⟩, k3⟩ := sstep_rel K g ho hev.1
      obtain ⟨m2, k4, k5⟩ := srun_rel K n k2 h2 (by rw [k3]; exact hev.2)
      exact ⟨m2, k1.trans k4, k5⟩
end
end Go.Sym
/- Instances of states: sound. -/
namespace Go.Sym
open Go Go.Abs
set_option linter.unusedVariables false
set_option linter.unusedSimpArgs false

theorem get_node0 {α : Type} (x : Option α) (a b c d : Tr α) : (Tr.node x a b c d).get 0 = x := rfl
theorem get_nodeS {α : Type} (x : Option α) (a b c d : Tr α) (k : Nat) : (Tr.node x a b c d).get (k + 1) = match d4 (k % 4) with | .a => a.get (k / 4) | .b => b.get (k / 4) | .c => c.get (k / 4) | .d => d.get (k / 4) := by
  unfold Tr.get
  rw [show Nat.succ (k + 1) = (k + 1) + 1 from rfl, wayTo_succ]
  rw [wayTo_more α (k + 1) (k / 4) (Nat.succ (k / 4)) (by omega) (by omega)]
  cases d4 (k % 4) <;> rfl
theorem allK_get {α : Type} : ∀ {f : Nat → α → Bool} {t : Tr α}, allK f t = true → ∀ n v, t.get n = some v → f n v = true := by
  intro f t
  induction t generalizing f with
  | nil => intro _ n v e; rw [Tr.get_nil] at e; cases e
  | node x a b c d iha ihb ihc ihd =>
    intro h n v e
    simp only [allK, Bool.and_eq_true] at h
    obtain ⟨⟨⟨⟨h0, ha⟩, hb⟩, hc⟩, hd⟩ := h
    cases n with
    | zero => rw [get_node0] at e; subst e; exact h0
    | succ k =>
      rw [get_nodeS] at e
      have hm : k % 4 = 0 ∨ k % 4 = 1 ∨ k % 4 = 2 ∨ k % 4 = 3 := by omega
      have hk : k = 4 * (k / 4) + k % 4 := by omega
      rcases hm with q | q | q | q <;> rw [q] at e hk
      · have := iha ha (k / 4) v e; rw [show k + 1 = 4 * (k / 4) + 1 from by omega]; exact this
      · have := ihb hb (k / 4) v e; rw [show k + 1 = 4 * (k / 4) + 2 from by omega]; exact this
      · have := ihc hc (k / 4) v e; rw [show k + 1 = 4 * (k / 4) + 3 from by omega]; exact this
      · have := ihd hd (k / 4) v e; rw [show k + 1 = 4 * (k / 4) + 4 from by omega]; exact this

section
variable {P : Program} {h : Heap} {H H' : Hid} {ρ ρ' : Env} {h0 : Heap} {sh : SHeap} {σ : Sub} {β : Blks}

theorem insts_i {a b : E} (hρ : (σ.ev ρ).le ρ') (e : insts .i σ a b = true) : a.i ρ' = b.i ρ := by
  unfold insts at e
  simp only [Bool.and_eq_true, decide_eq_true_eq] at e
  rw [(inst_ev hρ a).1 e.1, e.2]
theorem insts_b {a b : E} (hρ : (σ.ev ρ).le ρ') (e : insts .b σ a b = true) : a.b ρ' = b.b ρ := by
  unfold insts at e
  simp only [Bool.and_eq_true, decide_eq_true_eq] at e
  rw [(inst_ev hρ a).2.1 e.1, e.2]
theorem insts_v {a b : E} (hρ : (σ.ev ρ).le ρ') (e : insts .v σ a b = true) : a.v ρ' = b.v ρ := by
  unfold insts at e
  simp only [Bool.and_eq_true, decide_eq_true_eq] at e
  rw [(inst_ev hρ a).2.2 e.1, e.2]

/-- The names of the pattern. -/
structure Names (h : Heap) (H H' : Hid) (ρ : Env) (σ : Sub) (β : Blks) : Prop where
  nu : ∀ a c, findA a β = some (some c) → H'.ν a = H.ν c
  nu0 : ∀ a, findA a β = some none → H'.ν a = some .nil
  ka : ∀ (n : Nat) p av, σ.p[n]? = some p → avOf h H ρ p = some av → H'.κ n = [av]
  S : H'.S = H.S

theorem fits_rel (R : HR P h0 h H ρ sh) (N : Names h H H' ρ σ β) (hρ : (σ.ev ρ).le ρ') : ∀ {f : Nat} {x y : SV} {u : AV}, fits P sh σ β f x y = true → SD P h H ρ y u → SD P h H' ρ' x u := by
  intro f
  induction f with
  | zero => intro x y u e; exact (Bool.false_ne_true e).elim
  | succ f ih =>
    intro x y u e g
    have lists : ∀ {xs ys : List SV} {us : List AV}, all2 (fits P sh σ β f) xs ys = true → SDs P h H ρ ys us → SDs P h H' ρ' xs us := by
      intro xs
      induction xs with
      | nil => intro ys us e g; cases ys <;> simp [all2] at e; cases g; exact .nil
      | cons x xs ihx =>
        intro ys us e g
        cases ys with
        | nil => simp [all2] at e
        | cons y ys =>
          simp only [all2, Bool.and_eq_true] at e
          cases g with | cons g1 g2 => exact .cons (ih e.1 g1) (ihx e.2 g2)
    unfold fits at e
    split at e
    · cases g; rw [← insts_b hρ e]; exact .bool _
    · simp only [Bool.and_eq_true, decide_eq_true_eq] at e
      obtain ⟨rfl, e⟩ := e
      cases g; rw [← insts_i hρ e]; exact .int _ _
    · cases g with | str q => exact .str (by rw [insts_v hρ e]; exact q)
    · cases g; exact .nilp
    · simp only [Bool.and_eq_true, decide_eq_true_eq] at e
      have := beq_tt e.2; subst this
      cases g with | addr q => exact .addr (by rw [N.nu _ _ e.1]; exact q)
    · cases g; exact .nils
    · simp only [decide_eq_true_eq] at e
      cases g with
      | view0 q => exact .view0 (by rw [N.nu _ _ e]; exact q)
      | view q => exact .view (by rw [N.nu _ _ e]; exact q)
    · simp only [decide_eq_true_eq] at e
      cases g; exact .view0 (N.nu0 _ e)
    · rename_i y t e0 n
      split at e
      · simp only [Bool.and_eq_true, decide_eq_true_eq] at e
        obtain ⟨⟨e1, e2⟩, e3⟩ := e
        cases g
        split at e3
        · rename_i sz hz
          refine .pure (by simp [avOf, N.ka n .nil .nils e2 rfl]) hz (by omega) (.inl ⟨?_, rfl⟩)
          rw [insts_v hρ e1]; rfl
        · cases e3
      · split at e
        · rename_i t' e' p' hp
          simp only [Bool.and_eq_true, decide_eq_true_eq] at e
          obtain ⟨⟨e1, e2⟩, e3⟩ := e
          have := beq_tt e1; subst this
          have g' := pureOf_rel R g hp
          cases g' with
          | pure q1 q2 q3 q4 =>
            refine .pure (by simp [avOf, N.ka n p' u e3 q1]) q2 q3 ?_
            rw [N.S, insts_v hρ e2]; exact q4
        · cases e
    · cases g; exact .nilm
    · cases g; exact .nilf
    · simp only [Bool.and_eq_true] at e
      have := beq_tt e.1.1; subst this
      cases g with | func g1 g2 => exact .func (lists e.1.2 g1) (lists e.2 g2)
    · simp only [decide_eq_true_eq] at e
      cases g with | yieldf q => exact .yieldf (by rw [N.nu _ _ e]; exact q)
    · cases g; exact .nili
    · simp only [Bool.and_eq_true] at e
      have := beq_tt e.1; subst this
      cases g with | iface g => exact .iface (ih e.2 g)
    · cases g with | agg g => exact .agg (lists e g)
    · cases g with | tuple g => exact .tuple (lists e g)
    · cases e
theorem fitsTm_rel (R : HR P h0 h H ρ sh) (N : Names h H H' ρ σ β) (hρ : (σ.ev ρ).le ρ') {x y : Tr SV} {u : Tr AV} (e : fitsTm P sh σ β x y = true) (g : TmR P h H ρ y u) : TmR P h H' ρ' x u :=
  fun t v hv => fits_rel R N hρ (allK_get e t v hv) (g.at t)
theorem fitsL_rel (R : HR P h0 h H ρ sh) (N : Names h H H' ρ σ β) (hρ : (σ.ev ρ).le ρ') : ∀ {xs ys : List SV} {us : List AV}, all2 (fits P sh σ β 20) xs ys = true → SDs P h H ρ ys us → SDs P h H' ρ' xs us
  | [], [], _, e, .nil => .nil
  | x :: xs, y :: ys, _, e, .cons g1 g2 => by
    simp only [all2, Bool.and_eq_true] at e
    exact .cons (fits_rel R N hρ e.1 g1) (fitsL_rel R N hρ e.2 g2)
  | [], _ :: _, _, e, _ => by simp [all2] at e
  | _ :: _, [], _, e, _ => by simp [all2] at e
theorem fitsDefs_rel (R : HR P h0 h H ρ sh) (N : Names h H H' ρ σ β) (hρ : (σ.ev ρ).le ρ') : ∀ {xs ys : List SDef} {us : List ADef}, all2 (fitsDef P sh σ β) xs ys = true → DefsR P h H ρ ys us → DefsR P h H' ρ' xs us
  | [], [], _, e, .nil => .nil
  | x :: xs, y :: ys, _, e, .cons g1 g2 => by
    simp only [all2, Bool.and_eq_true] at e
    refine .cons ?_ (fitsDefs_rel R N hρ e.2 g2)
    obtain ⟨tx, ax⟩ := x
    obtain ⟨ty, ay⟩ := y
    obtain ⟨e1, _⟩ := e
    simp only [fitsDef, Bool.and_eq_true] at e1
    obtain ⟨h1, h2⟩ := e1
    cases g1 with
    | func g =>
      cases tx with
      | func a => simp only at h1; have := beq_tt h1; subst this; exact .func (fitsL_rel R N hρ h2 g)
      | collected a => simp at h1
    | collected q g =>
      cases tx with
      | func a => simp at h1
      | collected a =>
        simp only [decide_eq_true_eq] at h1
        exact .collected (by rw [N.nu _ _ h1]; exact q) (fitsL_rel R N hρ h2 g)
  | [], _ :: _, _, e, _ => by simp [all2] at e
  | _ :: _, [], _, e, _ => by simp [all2] at e
theorem todo_rel (N : Names h H H' ρ σ β) : ∀ {xs ys : List AItem}, todoOk β xs = true → ItsR H xs ys → ItsR H' xs ys
  | [], _, _, .nil => .nil
  | x :: xs, _, e, .cons g1 g2 => by
    simp only [todoOk, List.all_cons, Bool.and_eq_true] at e
    refine .cons ?_ (todo_rel N e.2 g2)
    cases g1 with
    | same _ q => exact .same _ q
    | inRangeFunc q =>
      have e1 := e.1
      simp only [sameId, decide_eq_true_eq] at e1
      exact .inRangeFunc (by rw [N.nu _ _ e1]; exact q)
    | endRangeFunc q =>
      have e1 := e.1
      simp only [sameId, decide_eq_true_eq] at e1
      exact .endRangeFunc (by rw [N.nu _ _ e1]; exact q)
theorem adoptF_rel (R : HR P h0 h H ρ sh) (N : Names h H H' ρ σ β) (hρ : (σ.ev ρ).le ρ') {x y z : SFrame} {u : AFrame} (e : adoptF P sh σ β x y = some z) (g : FR P h H ρ y u) : FR P h H' ρ' z u := by
  unfold adoptF at e
  obtain ⟨hc, e⟩ := cond_ok e
  cases e
  simp only [Bool.and_eq_true] at hc
  obtain ⟨⟨⟨c1, c2⟩, c3⟩, c4⟩ := hc
  refine ⟨g.fn, g.nt, fitsTm_rel R N hρ c1 g.tm, todo_rel N c3 g.todo, fitsDefs_rel R N hρ c2 g.defers, g.mode, g.deferred, ?_⟩
  have gr := g.round
  simp only
  generalize y.roundOf = yr at c4 gr
  generalize u.roundOf = ur at gr
  cases gr with
  | none => exact .none
  | some q =>
    simp only [sameId, decide_eq_true_eq] at c4
    exact .some (by rw [N.nu _ _ c4]; exact q)
theorem adoptFs_rel (R : HR P h0 h H ρ sh) (N : Names h H H' ρ σ β) (hρ : (σ.ev ρ).le ρ') : ∀ {xs ys zs : List SFrame} {us : List AFrame}, adoptFs P sh σ β xs ys = some zs → FRs P h H ρ ys us → FRs P h H' ρ' zs us
  | [], [], _, _, e, .nil => by cases e; exact .nil
  | x :: xs, y :: ys, _, _, e, .cons g1 g2 => by
    unfold adoptFs at e
    split at e
    · rename_i z zs h1 h2
      cases e
      exact .cons (adoptF_rel R N hρ h1 g1) (adoptFs_rel R N hρ h2 g2)
    · cases e
  | [], _ :: _, _, _, e, _ => by cases e
  | _ :: _, [], _, _, e, _ => by cases e

/-- The pattern's hidden parts. -/
noncomputable def hidOf (h : Heap) (H : Hid) (ρ : Env) (σ : Sub) (β : Blks) (x : SHeap) : Hid where
  ν a := match findA a β with
    | some (some c) => H.ν c
    | some none => some .nil
    | none => none
  κ n := match σ.p[n]? with
    | some p => match avOf h H ρ p with
      | some av => [av]
      | none => []
    | none => []
  κb b v := match x.get b with
    | some (.arr _ _ ver) => if v = ver ∧ ver < x.next then (match (match findA b β with | some (some c) => H.ν c | _ => none) with
      | some l => match l.at with
        | some a => match h.get a with
          | some (.cells cs) => cs
          | _ => []
        | none => []
      | none => []) else []
    | _ => []
  S := H.S
theorem findA_mem {α : Type} : ∀ {l : List (Nat × α)} {n : Nat} {x : α}, findA n l = some x → (n, x) ∈ l
  | [], _, _, e => by cases e
  | (m, y) :: l, n, x, e => by
    unfold findA at e
    cases hb : Nat.beq m n with
    | true => rw [hb] at e; cases e; have := beq_tt hb; subst this; simp
    | false => rw [hb] at e; exact List.mem_cons_of_mem _ (findA_mem e)
theorem names_of {x : SHeap} : Names h H (hidOf h H ρ σ β x) ρ σ β := by
  refine ⟨fun a c e => by simp [hidOf, e], fun a e => by simp [hidOf, e], fun n p av e1 e2 => by simp [hidOf, e1, e2], rfl⟩

theorem adoptLoops_get {x y : SHeap} : ∀ (β : Blks) (t : Tr SObj) (b : Nat) (o : SObj), (adoptLoops x y β t).get b = some o → (t.get b = some o ∧ ∀ c p q, (b, some c) ∈ β → x.get b = some (.loop p) → y.get c = some (.loop q) → False) ∨ ∃ c p q, (b, some c) ∈ β ∧ x.get b = some (.loop p) ∧ y.get c = some (.loop q) ∧ o = .loop { q with tm := p.tm, defers := p.defers }
  | [], t, b, o, e => .inl ⟨e, fun c p q h => by simp at h⟩
  | (a, none) :: β, t, b, o, e => by
    rcases adoptLoops_get β t b o e with ⟨h, k⟩ | ⟨c, p, q, h1, h2⟩
    · refine .inl ⟨h, fun c p q hm => ?_⟩
      simp only [List.mem_cons, Prod.mk.injEq, reduceCtorEq, and_false, false_or] at hm
      exact k c p q hm
    · exact .inr ⟨c, p, q, List.mem_cons_of_mem _ h1, h2⟩
  | (a, some c) :: β, t, b, o, e => by
    unfold adoptLoops at e
    split at e
    · rename_i p q hp hq
      rw [Tr.get_set] at e
      split at e
      · rename_i hb
        cases e
        subst hb
        exact .inr ⟨c, p, q, by simp, hp, hq, rfl⟩
      · rename_i hb
        rcases adoptLoops_get β t b o e with ⟨h, k⟩ | ⟨c', p, q, h1, h2⟩
        · refine .inl ⟨h, fun c' p q hm => ?_⟩
          simp only [List.mem_cons, Prod.mk.injEq] at hm
          rcases hm with ⟨hm, _⟩ | hm
          · exact absurd hm hb
          · exact k c' p q hm
        · exact .inr ⟨c', p, q, List.mem_cons_of_mem _ h1, h2⟩
    · rename_i hne
      rcases adoptLoops_get β t b o e with ⟨h, k⟩ | ⟨c', p, q, h1, h2⟩
      · refine .inl ⟨h, fun c' p q hm hp hq => ?_⟩
        simp only [List.mem_cons, Prod.mk.injEq] at hm
        rcases hm with ⟨rfl, hm⟩ | hm
        · cases hm; exact hne _ _ hp hq
        · exact k c' p q hm hp hq
      · exact .inr ⟨c', p, q, List.mem_cons_of_mem _ h1, h2⟩
theorem distinct_inj {β : Blks} (h : distinctL (β.filterMap (·.2)) = true) : ∀ {a b c : Nat}, (a, some c) ∈ β → (b, some c) ∈ β → a = b := by
  induction β with
  | nil => intro a b c h1; simp at h1
  | cons x β ih =>
    intro a b c h1 h2
    obtain ⟨xa, xc⟩ := x
    cases xc with
    | none =>
      simp only [List.filterMap_cons] at h
      simp only [List.mem_cons, Prod.mk.injEq, reduceCtorEq, and_false, false_or] at h1 h2
      exact ih h h1 h2
    | some d =>
      simp only [List.filterMap_cons, distinctL, Bool.and_eq_true, Bool.not_eq_true'] at h
      have hno : ∀ e, (e, some d) ∉ β := by
        intro e he
        have : d ∈ β.filterMap (·.2) := List.mem_filterMap.2 ⟨(e, some d), he, rfl⟩
        have hc := h.1
        simp at hc
        exact hc _ he
      simp only [List.mem_cons, Prod.mk.injEq] at h1 h2
      rcases h1 with ⟨rfl, h1⟩ | h1
      · cases h1
        rcases h2 with ⟨rfl, _⟩ | h2
        · rfl
        · exact absurd h2 (hno _)
      · rcases h2 with ⟨rfl, h2⟩ | h2
        · cases h2; exact absurd h1 (hno _)
        · exact ih h.2 h1 h2
theorem findA_of_mem {β : Blks} (h : distinctL (β.map (·.1)) = true) : ∀ {a : Nat} {c : Option Nat}, (a, c) ∈ β → findA a β = some c := by
  induction β with
  | nil => intro a c h1; simp at h1
  | cons x β ih =>
    intro a c h1
    obtain ⟨xa, xc⟩ := x
    simp only [List.map_cons, distinctL, Bool.and_eq_true, Bool.not_eq_true'] at h
    unfold findA
    simp only [List.mem_cons, Prod.mk.injEq] at h1
    rcases h1 with ⟨rfl, rfl⟩ | h1
    · simp
    · have hne : xa ≠ a := by
        intro q; subst q
        have hc := h.1
        simp at hc
        exact hc _ h1
      have : Nat.beq xa a = false := by cases hb : Nat.beq xa a with | true => exact absurd (beq_tt hb) hne | false => rfl
      rw [this]
      exact ih h.2 h1

theorem fitsObj_some {o : SObj} {c : Nat} (k : fitsObj P sh σ β o (some c) = true) : ∃ oc, sh.get c = some oc ∧ own oc = true := by
  cases o with
  | cells xs =>
    simp only [fitsObj] at k
    split at k
    · rename_i hg; exact ⟨_, hg, rfl⟩
    · cases k
  | arr t e v =>
    simp only [fitsObj] at k
    split at k
    · rename_i hg; exact ⟨_, hg, rfl⟩
    · cases k
  | froz t e n => simp [fitsObj] at k
  | loop x =>
    simp only [fitsObj] at k
    split at k
    · rename_i hg; exact ⟨_, hg, rfl⟩
    · cases k
  | deferred ds =>
    cases ds with
    | none =>
      simp only [fitsObj] at k
      split at k
      · rename_i hg; exact ⟨_, hg, rfl⟩
      · cases k
    | some ds =>
      simp only [fitsObj] at k
      split at k
      · rename_i hg; exact ⟨_, hg, rfl⟩
      · cases k
/-- A state that is an instance of a pattern. -/
theorem adopt_rel {S0 : Nat → Prop} {outer : List AFrame} {x y z : SMach} {m : AMach} {φ : List Nat} (e : adopt P x φ σ β y = some z) (hρ : (σ.ev ρ).le ρ') (g : MR P h0 S0 outer ρ y m) : MR P h0 S0 outer ρ' z m := by
  obtain ⟨H0, cs, h1, h2, h3, h4, h5⟩ := g
  obtain ⟨f, callers, h⟩ := m
  simp only at h1 h2 h3 h4
  unfold adopt at e
  simp only at e
  obtain ⟨H, x1, R, s1⟩ := freezes_rel (P := P) (φ.map .view) h4
  generalize freezes y.h (φ.map .view) = sh at e R
  split at e
  · rename_i fr callers' hf hc
    obtain ⟨hH, e⟩ := cond_ok e
    cases e
    unfold adoptH at hH
    simp only [Bool.and_eq_true] at hH
    obtain ⟨⟨⟨⟨⟨k1, k2⟩, k2'⟩, k3⟩, k4⟩, k5⟩ := hH
    have hats := beq_tt k4
    have N : Names h H (hidOf h H ρ σ β x.h) ρ σ β := names_of
    -- the objects
    have objs : ∀ b o, (adoptLoops x.h sh β x.h.t).get b = some o → (∃ c, findA b β = some (some c) ∧ (own o = true → ∃ oc, sh.get c = some oc ∧ own oc = true)) ∨ (findA b β = some none ∧ ∀ l a, (hidOf h H ρ σ β x.h).ν b = some l → l.at = some a → False) := by
      intro b o ho
      have main : ∀ o, x.h.t.get b = some o → (∃ c, findA b β = some (some c) ∧ (∃ oc, sh.get c = some oc ∧ own oc = true)) ∨ (findA b β = some none) := by
        intro o ho
        have k := allK_get k1 b o ho
        simp only [Bool.and_eq_true] at k
        obtain ⟨_, k⟩ := k
        split at k
        · rename_i c hcb
          cases c with
          | none => exact .inr hcb
          | some c =>
            exact .inl ⟨c, hcb, fitsObj_some k⟩
        · cases k
      have fin : ∀ o', x.h.t.get b = some o' → _ := fun o' ho' => (main o' ho').imp (fun ⟨c, c1, c2⟩ => (⟨c, c1, fun _ => c2⟩ : ∃ c, findA b β = some (some c) ∧ (own o = true → ∃ oc, sh.get c = some oc ∧ own oc = true))) (fun q => (⟨q, fun l a n1 l1 => by simp [hidOf, q] at n1; subst n1; cases l1⟩ : findA b β = some none ∧ ∀ l a, (hidOf h H ρ σ β x.h).ν b = some l → l.at = some a → False))
      rcases adoptLoops_get β x.h.t b o ho with ⟨ho, _⟩ | ⟨c, p, q, _, hp, _, _⟩
      · exact fin o ho
      · exact fin _ hp
    refine ⟨hidOf h H ρ σ β x.h, cs, h1, adoptF_rel R N hρ hf (h2.mono x1), adoptFs_rel R N hρ hc (h3.mono x1), ⟨?_, ?_, ?_, R.S_lt, R.next, R.keep, ?_, ?_, ?_, ?_, R.none_, ?_⟩, fun a ha => (s1 a ha).elim (h5 a) .inr⟩
    · intro b o ho
      rcases adoptLoops_get β x.h.t b o ho with ⟨ho, hnl⟩ | ⟨c, p, q, hm, hp, hq, rfl⟩
      · have k := allK_get k1 b o ho
        simp only [Bool.and_eq_true] at k
        obtain ⟨kv, k⟩ := k
        split at k
        · rename_i cc hcb
          cases o with
          | arr t e0 ver =>
            cases cc with
            | none =>
              simp only [fitsObj, Bool.and_eq_true] at k
              obtain ⟨ka, kb⟩ := k
              split at kb
              · rename_i sz hz
                exact .arr0 (by rw [insts_v hρ ka]; rfl) (N.nu0 _ hcb) hz (by omega)
              · cases kb
            | some c =>
              simp only [fitsObj] at k
              split at k
              · rename_i t' e' v' hg
                simp only [Bool.and_eq_true] at k
                have := beq_tt k.1; subst this
                have hv := insts_v hρ k.2
                have hnu := N.nu _ _ hcb
                have hoc := R.objs _ _ hg
                cases hoc with
                | arr0 q1 q2 q3 q4 => exact .arr0 (by rw [hv]; exact q1) (by rw [hnu]; exact q2) q3 q4
                | arr q1 q2 q3 q4 =>
                  rename_i a len sz l acs
                  refine .arr (by rw [hv]; exact q1) (by rw [hnu]; exact q2) ⟨q3.size, q3.pos, q3.len, q3.get, q3.row⟩ ?_
                  have hvlt : ver < x.h.next := by simpa [verOk, Nat.blt_eq] using kv
                  have ho' : x.h.get b = some (.arr t e0 ver) := ho
                  simp only [hidOf, ho', hvlt, and_self, if_true, hcb, q2, Loc.at, q3.get]
              · cases k
          | cells xs =>
            cases cc with
            | none => simp [fitsObj] at k
            | some c =>
              simp only [fitsObj] at k
              split at k
              · rename_i ys hg
                have hoc := R.objs _ _ hg
                cases hoc with
                | cells q1 q2 q3 => exact .cells (by rw [N.nu _ _ hcb]; exact q1) q2 (fitsL_rel R N hρ k q3)
              · cases k
          | froz t e0 n => cases cc <;> simp [fitsObj] at k
          | deferred ds =>
            cases cc with
            | none => cases ds <;> simp [fitsObj] at k
            | some c =>
              cases ds with
              | none =>
                simp only [fitsObj] at k
                split at k
                · rename_i hg
                  have hoc := R.objs _ _ hg
                  cases hoc with
                  | deferred q1 q2 q3 =>
                    rename_i yy a
                    cases yy with
                    | none => exact .deferred (y := none) (by rw [N.nu _ _ hcb]; exact q1) q2 trivial
                    | some _ => exact q3.elim
                · cases k
              | some ds =>
                simp only [fitsObj] at k
                split at k
                · rename_i es hg
                  have hoc := R.objs _ _ hg
                  cases hoc with
                  | deferred q1 q2 q3 =>
                    rename_i yy a
                    cases yy with
                    | none => exact q3.elim
                    | some us => exact .deferred (y := some us) (by rw [N.nu _ _ hcb]; exact q1) q2 (fitsDefs_rel R N hρ k q3)
                · cases k
          | loop xl =>
            exfalso
            cases cc with
            | none => simp [fitsObj] at k
            | some c =>
              simp only [fitsObj] at k
              split at k
              · rename_i yl hg
                exact hnl c xl yl (findA_mem hcb) ho hg
              · cases k
        · cases k
      · -- a loop
        have k := allK_get k1 b _ hp
        simp only [Bool.and_eq_true] at k
        obtain ⟨_, k⟩ := k
        rw [findA_of_mem k2' hm] at k
        simp only [fitsObj, hq, Bool.and_eq_true, decide_eq_true_eq] at k
        have hoc := R.objs _ _ hq
        cases hoc with
        | loop q1 q2 q3 =>
          exact .loop (by rw [N.nu _ _ (findA_of_mem k2' hm)]; exact q1) q2 ⟨q3.state, q3.pending, q3.fn, q3.nt, fitsTm_rel R N hρ k.1 q3.tm, q3.params, q3.assign, q3.body, by rw [N.nu _ _ k.2]; exact q3.defers⟩
    · intro b b' o o' l l' a e1 e2 w1 w2 n1 n2 a1 a2
      rcases objs b o e1 with ⟨c, c1, c2⟩ | ⟨_, c2⟩
      · rcases objs b' o' e2 with ⟨c', c1', c2'⟩ | ⟨_, c2'⟩
        · obtain ⟨oc, p1, p2⟩ := c2 w1
          obtain ⟨oc', p1', p2'⟩ := c2' w2
          rw [N.nu _ _ c1] at n1
          rw [N.nu _ _ c1'] at n2
          have := R.inj _ _ _ _ _ _ _ p1 p1' p2 p2' n1 n2 a1 a2
          subst this
          exact distinct_inj k2 (findA_mem c1) (findA_mem c1')
        · exact (c2' _ _ n2 a2).elim
      · exact (c2 _ _ n1 a1).elim
    · intro b o l a e1 w1 n1 a1
      rcases objs b o e1 with ⟨c, c1, c2⟩ | ⟨_, c2⟩
      · obtain ⟨oc, p1, p2⟩ := c2 w1
        rw [N.nu _ _ c1] at n1
        exact R.ownS _ _ _ _ p1 p2 n1 a1
      · exact (c2 _ _ n1 a1).elim
    · intro b hb
      have : findA b β = none := by
        cases hq : findA b β with
        | none => rfl
        | some c =>
          have hm := findA_mem hq
          have := List.all_eq_true.1 k3 _ hm
          simp only [Nat.blt_eq] at this
          have hb : x.h.next ≤ b := hb
          omega
      simp [hidOf, this]
    · intro b l a n1 a1
      simp only [hidOf] at n1
      split at n1
      · exact R.nu_lt _ _ _ n1 a1
      · cases n1; cases a1
      · cases n1
    · intro n hn
      have hn : x.h.ats ≤ n := hn
      have : σ.p[n]? = none := List.getElem?_eq_none (by omega)
      simp [hidOf, this]
    · intro b v hv
      have hv : x.h.next ≤ v := hv
      simp only [hidOf]
      split
      · rw [if_neg (by omega)]
      · rfl
    · intro b o ho
      show b < x.h.next
      rcases objs b o ho with ⟨c, c1, _⟩ | ⟨c1, _⟩
      all_goals
        have hm := findA_mem c1
        have := List.all_eq_true.1 k3 _ hm
        simpa [Nat.blt_eq] using this
  · cases e
end
end Go.Sym
/- How a function's contract is shown. -/
namespace Go.Sym
open Go Go.Abs
set_option linter.unusedVariables false
set_option linter.unusedSimpArgs false

/-- The machine stands at the end of the call of f, which has come to r. -/
def Ends (P : Program) (f : FuncId) (h0 : Heap) (S0 : Nat → Prop) (outer : List AFrame) (r : V) (m : AMach) : Prop :=
  m.callers = outer ∧ m.fr.fn = f ∧ m.fr.mode = .returning ∧ m.fr.defers = [] ∧ m.fr.deferred = false ∧ h0.next ≤ m.h.next ∧ (∀ c, c < h0.next → m.h.get c = h0.get c) ∧ (∀ c, m.h.next ≤ c → m.h.get c = none) ∧
  ∃ fn us, P.funcs[f]? = some fn ∧ aresults P m.h m.fr.tm fn.results.toList = some us ∧ ResR P m.h (fun c => S0 c ∨ (h0.next ≤ c ∧ c < m.h.next)) fn.resultTypes.toList r us
/-- From the state s, with these values of its variables, the call of f comes to r. -/
def Comes (C : Cfg) (f : FuncId) (s : SMach) (ρ : Env) (r : V) : Prop :=
  ∀ h0 S0 outer m, (∀ ρ', ρ.le ρ' → MR C.P h0 S0 outer ρ' s m) → ∃ m', Leads C.P m m' ∧ Ends C.P f h0 S0 outer r m'
/-- More value variables: what calls have returned. -/
def Env.ext (ρ : Env) (l : List V) : Env := { ρ with v := ρ.v ++ l }
theorem Env.le_ext (ρ : Env) (l : List V) : ρ.le (ρ.ext l) := ⟨rfl, rfl, l, rfl⟩

section
variable {C : Cfg} {f : FuncId} {s s' : SMach} {ρ : Env} {r : V}

/-- A stretch of the run. -/
theorem Comes.step (K : ProgOk C.P) {n : Nat} {ch : List Bool} {φ : List Nat} {σ : Sub} {β : Blks} {ev : List Ev} (e : stretch C n ch s s' φ σ β = some (s', ev)) (l : List V) (hev : EvOk C.P (ρ.ext l) s.h.nv ev) (k : Comes C f s' (σ.ev (ρ.ext l)) r) : Comes C f s ρ r := by
  intro h0 S0 outer m g
  unfold stretch at e
  split at e
  · rename_i z ev' hr
    simp only [Option.map_eq_some_iff] at e
    obtain ⟨m1, ha, e⟩ := e
    cases e
    obtain ⟨m2, k1, k2⟩ := srun_rel K n (g _ (ρ.le_ext l)) hr hev
    obtain ⟨m3, k3, k4⟩ := k h0 S0 outer m2 fun ρ' hρ' => adopt_rel ha hρ' k2
    exact ⟨m3, k1.trans k3, k4⟩
  · cases e

/-- The end. -/
theorem Comes.last (K : ProgOk C.P) {n : Nat} {ch : List Bool} {e0 : E} {ev : List Ev} (e : Sym.last C f n ch s = some (e0, ev)) (l : List V) (hev : EvOk C.P (ρ.ext l) s.h.nv ev) (hr : e0.v (ρ.ext l) = r) : Comes C f s ρ r := by
  intro h0 S0 outer m g
  unfold Sym.last at e
  split at e
  · rename_i z ev' hrun
    simp only [Option.map_eq_some_iff] at e
    obtain ⟨⟨e1, ev2⟩, hs, e⟩ := e
    cases e
    rw [EvOk.append] at hev
    obtain ⟨m2, k1, H, cs, h1, h2, h3, R, B⟩ := srun_rel K n (g _ (ρ.le_ext l)) hrun hev.1
    refine ⟨m2, k1, ?_⟩
    unfold send at hs
    split at hs
    · rename_i hc hm hd
      rw [hc] at h3
      cases h3
      have gm := h2.mode
      rw [hm] at gm
      have gd := h2.defers
      rw [hd] at gd
      obtain ⟨hq, hs⟩ := cond_ok hs
      simp only [Bool.and_eq_true, Bool.not_eq_true'] at hq
      have hfn := beq_tt hq.1
      split at hs
      · rename_i fn hf
        split at hs
        · rename_i vs c hres
          simp only at hs
          -- the results
          have hcH : Holds (ρ.ext l) c := by
            have : ev2 = asks c := by
              split at hs
              · simp only [Option.map_eq_some_iff] at hs
                obtain ⟨_, _, q⟩ := hs
                cases q; rfl
              · cases hs
              · simp only [Option.map_eq_some_iff] at hs
                obtain ⟨_, _, q⟩ := hs
                cases q; rfl
            have := hev.2
            rw [‹ev2 = asks c›] at this
            exact EvOk.asks.1 this
          obtain ⟨us, u1, u2⟩ := sresults_rel R h2.tm hres hcH
          obtain ⟨H1, x1, R1, s1⟩ := freezes_rel (P := C.P) (viewsOf vs) R
          generalize freezes z.h (viewsOf vs) = sh1 at hs R1
          have hS : ∀ a, H1.S a → S0 a ∨ (h0.next ≤ a ∧ a < m2.h.next) := by
            intro a ha
            have hlt := R1.S_lt a ha
            rcases s1 a ha with q | q
            · rcases B a q with q | q
              · exact .inl q
              · exact .inr ⟨q, hlt⟩
            · exact .inr ⟨q, hlt⟩
          have hk : Kept m2.h (argS m2.h H1 false) m2.h (fun c => S0 c ∨ (h0.next ≤ c ∧ c < m2.h.next)) := fun a ha => ⟨hS a ha, fun _ e => e⟩
          refine ⟨by rw [h1]; rfl, by rw [h2.fn, hfn], gm.ret_iff, ?_, by rw [h2.deferred, hq.2], R.next, R.keep, R.none_, fn, us, hf, u1, ?_⟩
          · generalize m2.fr.defers = md at gd; cases gd; rfl
          · split at hs
            · rename_i t v ht
              simp only [Option.map_eq_some_iff] at hs
              obtain ⟨e', he, q⟩ := hs
              cases q
              cases u2 with
              | cons g1 g2 =>
                cases g2
                rw [ht]
                refine ⟨_, rfl, ?_⟩
                rw [← hr]
                exact (argE_rel R1 (g1.mono x1) he).mono hk
            · cases hs
            · rename_i ts hne1 hne2
              simp only [Option.map_eq_some_iff] at hs
              obtain ⟨l', he, q⟩ := hs
              cases q
              have ga := (argsE_rel R1 (u2.mono x1) he).mono hk
              unfold ResR
              split
              · rename_i t ht
                first | exact (hne1 _ ht).elim | exact (hne2 _ ht).elim | exact (hne2 _ _ ht rfl).elim | exact (hne1 _ _ ht rfl).elim | exact (hne2 _ _ ht).elim | exact (hne1 _ _ ht).elim
              · exact ⟨_, by rw [← hr, listE_v], ga⟩
        · cases hs
      · cases hs
    · cases hs
  · cases e

theorem sargs_rel {P : Program} {h : Heap} {H : Hid} {ρ : Env} : ∀ {ts : List TypeId} {j : Nat} {xs : List V} {as_ : List AV} {vs : List SV}, ArgsR P h H.S ts xs as_ → sargs P j ts = some vs → (∀ (i : Nat) x, xs[i]? = some x → ρ.v[j + i]? = some x) → (∀ (i : Nat) a, as_[i]? = some a → H.κ (j + i) = a.cells) → SDs P h H ρ vs as_
  | [], j, _, _, vs, .nil, e, _, _ => by cases e; exact .nil
  | t :: ts, j, _, _, vs, .cons (x := x) (a := a) g1 g2, e, hx, hk => by
    unfold sargs at e
    split at e
    · rename_i cs l h1 h2
      simp only [Option.map_eq_some_iff] at e
      obtain ⟨v, h3, e⟩ := e
      cases e
      obtain ⟨p1, p2⟩ := g1.cells
      have hv : (E.vv j).v ρ = x := by
        have := hx 0 x rfl
        simp only [E.v, List.getD_eq_getElem?_getD]
        rw [show j = j + 0 from rfl, this]; rfl
      have hc : SDs P h H ρ cs a.cells := by
        refine cellsOf_rel (Nat.le_refl _) (by rw [hv]; exact p1) h1 ?_
        intro k av hk'
        have := hk 0 a rfl
        simp only [avOf, Nat.zero_add]
        rw [show j = j + 0 from rfl, this]; exact hk'
      refine .cons (packS_rel (x := x) hc p2 h3) (sargs_rel g2 h2 (fun i y hy => ?_) (fun i b hb => ?_))
      · rw [show j + 1 + i = j + (i + 1) from by omega]; exact hx (i + 1) y (by simpa using hy)
      · rw [show j + 1 + i = j + (i + 1) from by omega]; exact hk (i + 1) b (by simpa using hb)
    · cases e
theorem ArgsR.lengths {P : Program} {h : Heap} {S : Nat → Prop} {ts : List TypeId} {xs : List V} {as_ : List AV} (g : ArgsR P h S ts xs as_) : as_.length = ts.length ∧ xs.length = ts.length := by
  induction g with
  | nil => exact ⟨rfl, rfl⟩
  | cons _ _ ih => simp [ih.1, ih.2]

/-- A contract. -/
theorem Fn.of {xs : List V} (hb : sbegin C.P f = some s) (k : Comes C f s ⟨[], [], xs⟩ r) : Fn C.P f xs r := by
  intro h S as_ fn hfn hS hno ga
  unfold sbegin at hb
  rw [hfn] at hb
  simp only at hb
  split at hb
  · rename_i vs hv
    simp only [Option.map_eq_some_iff] at hb
    obtain ⟨fr, he, hb⟩ := hb
    subst hb
    have lens := ga.lengths
    let H : Hid := { ν := fun _ => none, κ := fun n => match as_[n]? with | some a => a.cells | none => [], κb := fun _ _ => [], S }
    have hargs : ∀ ρ', (⟨[], [], xs⟩ : Env).le ρ' → SDs C.P h H ρ' vs as_ := by
      intro ρ' hρ'
      obtain ⟨_, _, l, hl⟩ := hρ'
      refine sargs_rel (H := H) ga hv (fun i x hx => ?_) (fun i a ha => ?_)
      · rw [hl, Nat.zero_add]
        simp only
        rw [List.getElem?_append_left (List.getElem?_eq_some_iff.1 hx).1]; exact hx
      · simp only [H, Nat.zero_add, ha]
    obtain ⟨g, g1, _⟩ := senter_rel (hargs _ ⟨rfl, rfl, [], by simp⟩) he
    refine ⟨g, g1, fun callers => ?_⟩
    have start : ∀ ρ', (⟨[], [], xs⟩ : Env).le ρ' → MR C.P h S callers ρ' { fr, callers := [], h := { next := 0, ats := fn.params.size, nv := fn.params.size, t := .nil } } { fr := g, callers, h } := by
      intro ρ' hρ'
      obtain ⟨g', g1', g2⟩ := senter_rel (hargs ρ' hρ') he
      rw [g1] at g1'; cases g1'
      have hnil : ∀ b o, (({ next := 0, ats := fn.params.size, nv := fn.params.size, t := .nil } : SHeap).get b) = some o → False := by
        intro b o e
        have : (Tr.nil : Tr SObj).get b = some o := e
        rw [Tr.get_nil] at this; cases this
      refine ⟨H, [], rfl, g2, .nil, ⟨fun b o e => (hnil b o e).elim, fun b _ o _ _ _ _ e => (hnil b o e).elim, fun b o _ _ e => (hnil b o e).elim, hS, Nat.le_refl _, fun _ _ => rfl, fun _ _ => rfl, (fun _ _ _ e => by cases e), ?_, fun _ _ _ => rfl, hno, fun b o e => (hnil b o e).elim⟩, fun a ha => .inl ha⟩
      intro n hn
      have hn : fn.params.size ≤ n := hn
      have : as_[n]? = none := List.getElem?_eq_none (by rw [lens.1]; simpa using hn)
      simp only [H, this]
    obtain ⟨m', k1, k2⟩ := k h S callers _ start
    obtain ⟨q1, q2, q3, q4, q5, q6, q7, q8, fn', us, q9, q10, q11⟩ := k2
    rw [hfn] at q9; cases q9
    obtain ⟨mf, mc, mh⟩ := m'
    simp only at q1 q2 q3 q4 q5 q6 q7 q8 q10 q11
    subst q1
    exact ⟨mf, mh, us, q6, q7, q8, q11, q2, q3, q4, q5, q10, k1⟩
  · cases hb
end
end Go.Sym
