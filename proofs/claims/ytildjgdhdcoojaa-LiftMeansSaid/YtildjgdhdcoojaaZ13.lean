/- Texts of the claim: Lift8, WTt. -/
import Derived.Test.YtildjgdhdcoojaaZ10
import Derived.Test.YtildjgdhdcoojaaZ12
namespace X
open Go Go.Abs Go.Sym
set_option linter.unusedVariables false
set_option linter.unusedSimpArgs false

theorem right_can {w W : Nat} (h0 : 0 < W) (h1 : w ≤ big) (h2 : W ≤ big) : Fn prog ref01_Right.f [can w W] (.bool true) := by
  obtain ⟨a, b, e, p, q, s, t, u⟩ := can_parts (a := w) h0
  rw [e]
  exact right_spec (by omega) (by omega) p u
theorem can0 (a b : Nat) : (can a b).get 0 = .int ((a / a.gcd b : Nat) : Int) := rfl
theorem can1 (a b : Nat) : (can a b).get 1 = .int ((b / a.gcd b : Nat) : Int) := rfl
theorem can_inj {a b c d : Nat} (h : can a b = can c d) : a / a.gcd b = c / c.gcd d ∧ b / a.gcd b = d / c.gcd d := by
  unfold can qn at h
  simp at h
  omega

theorem LiftMeans_spec {g c o w : Nat} {Lv : V} {l : List Nat} (hg : g ≤ 255) (hc : c ≤ 255) (ho : o ≤ 255) (hw : w ≤ 255) (hL : Ints Lv l) (hl : ∀ x ∈ l, x ≤ 255) (hll : l.length ≤ 9223372036854775807) (a b d : Int) :
    Fn prog LiftMeans.f [.list [.int g, .int c, .int o, .int w, Lv], .list [.int a, .int b, .int d]] (.bool true) := by
  obtain ⟨R, n', rows, M, hn', f17⟩ := DraftLift_spec hg hc ho hw hL hl hll
  rw [hn'] at f17
  clear hn'
  generalize 1 + g % 20 = G at *
  generalize 1 + c % 10 = n at *
  generalize o % (G + 1) = O at *
  generalize 2 + w % 3 = k at *
  obtain ⟨z, e, ch, hze, hc1, hc2, f16⟩ := KnownOf_spec M a b d
  obtain ⟨m, hm⟩ : ∃ m, z + e + m = n := ⟨n - z - e, by omega⟩
  obtain ⟨r20, f20, hr20⟩ := Ones_spec M hm hc1 hc2
  have f23 := Next_spec M hm hc1 hc2
  have hts := tls_sum M ch hm
  have htl := tls_le M ch (e := e) (m := m) (by omega)
  have hW1 := wts_sum_le M ch (e := e) (m := m) (by omega)
  have hB : 55 * (252 * 20 ^ 10 * 20) ≤ big := by decide
  have hlen := wts_len G n O rows ch e m
  have hwl := wt_le M ch (e := e) (m := m) (by omega)
  have hn := M.n2
  generalize hD : V.list [.int g, .int c, .int o, .int w, Lv] = D at *
  generalize hK : V.list [.int a, .int b, .int d] = Kn at *
  have d17 : Fn prog 17 [((((((V.list []).snoc (.int (D.get 0).toI)).snoc (.int (D.get 1).toI)).snoc (.int (D.get 2).toI)).snoc (.int (D.get 3).toI)).snoc (D.get 4))] (lv G n O R) := by subst hD; exact f17
  have d16 : Fn prog 16 [(((V.list []).snoc (.int (Kn.get 0).toI)).snoc (.int (Kn.get 1).toI)).snoc (.int (Kn.get 2).toI), ((((V.list []).snoc (.int ((lv G n O R).get 0).toI)).snoc (.int ((lv G n O R).get 1).toI)).snoc (.int ((lv G n O R).get 2).toI)).snoc ((lv G n O R).get 3)] (.list [.int z, .int e, .int ch]) := by subst hK; exact f16
  clear f17 f16 hD hK
  have l1 : ((lv G n O R).get 1).toI = n := rfl
  have x0 : ((V.list [.int z, .int e, .int ch]).get 0).toI = z := rfl
  have x1 : ((V.list [.int z, .int e, .int ch]).get 1).toI = e := rfl
  by_cases hW0 : (wts G n O rows ch e m).sum = 0
  · -- nothing has a weight
    rw [if_pos hW0] at hr20
    subst hr20
    by_cases hm0 : m = 0
    · rw [if_pos hm0] at f23
      refine Fn.of (C := LiftMeans.K) LiftMeans.b (Comes.last progOk LiftMeans.p2 [.bool true, lv G n O R, .list [.int z, .int e, .int ch], .list [.nil, .int 7], .list [qn 0 0, .int 4]] ?_ rfl)
      simp only [EvOk, E.b, E.i, E.v, Env.ext, List.map_cons, List.map_nil, List.cons_append, List.nil_append, List.append_nil, List.getD_cons_zero, List.getD_cons_succ, toI_int', toB_bool', ltB_iff, leB_iff, eqB_iff, eqB_not, ltB_not, leB_not, Bool.not_eq_true', Bool.not_eq_false', Bool.not_not, Bool.and_eq_true, and_true, true_and]
      refine ⟨wakes_spec, d17, d16, f20, f23, ?_⟩
      simp only [l1, x0, x1]
      refine ⟨by omega, by omega, ?_⟩
      refine ⟨by decide, by decide, by decide, by decide, by omega⟩
    · rw [if_neg hm0, if_pos hW0] at f23
      refine Fn.of (C := LiftMeans.K) LiftMeans.b (Comes.last progOk LiftMeans.p1 [.bool true, lv G n O R, .list [.int z, .int e, .int ch], .list [.nil, .int 7], .list [qn 0 0, .int 7]] ?_ rfl)
      simp only [EvOk, E.b, E.i, E.v, Env.ext, List.map_cons, List.map_nil, List.cons_append, List.nil_append, List.append_nil, List.getD_cons_zero, List.getD_cons_succ, toI_int', toB_bool', ltB_iff, leB_iff, eqB_iff, eqB_not, ltB_not, leB_not, Bool.not_eq_true', Bool.not_eq_false', Bool.not_not, Bool.and_eq_true, and_true, true_and]
      refine ⟨wakes_spec, d17, d16, f20, f23, ?_⟩
      simp only [l1, x0, x1]
      refine ⟨by omega, by omega, ?_⟩
      refine ⟨by decide, by decide, by decide, by decide⟩
  · rw [if_neg hW0] at hr20
    obtain ⟨q, rfl, hq⟩ := hr20
    have hbig : big = 4611686018427387903 := rfl
    have hWp : 0 < (wts G n O rows ch e m).sum := Nat.pos_of_ne_zero hW0
    have hW'1 : m ≠ 0 → (wts G n O rows ch (e + 1) (m - 1)).sum ≤ 11 * (252 * 20 ^ 10 * 20) := fun h => wts_sum_le M ch (by omega)
    have hti : ∀ i, i < n + 1 → (tls G n O rows ch e m)[i]? = some (i * wt G n O rows ch e m i) := by intro i hi; simp [tls, hi]
    have hwi : ∀ i, i < n + 1 → (wts G n O rows ch e m)[i]? = some (wt G n O rows ch e m i) := by intro i hi; simp [wts, hi]
    have hwz : ∀ i, wt G n O rows ch e m i ≠ 0 → e ≤ i ∧ i ≤ e + m := by
      intro i h
      unfold wt at h
      by_cases q : e ≤ i ∧ i ≤ e + m
      · exact q
      · rw [if_neg q] at h; exact absurd rfl h
    have hql : q.length = n + 1 := by rw [hq]; simp [hlen]
    have hqi : ∀ i : Nat, i < n + 1 → (V.list q).get (i : Int) = can (wt G n O rows ch e m i) (wts G n O rows ch e m).sum := by
      intro i hi
      rw [hq]
      simp [V.get, show ∀ l, (V.list l).els = l from fun _ => rfl, hwi i hi]
    have hB2 : 252 * 20 ^ 10 * 20 * 10 ≤ big := by decide
    have hB3 : 11 * (252 * 20 ^ 10 * 20) ≤ big := by decide
    generalize hWW : (wts G n O rows ch e m).sum = W at *
    generalize hTT : (tls G n O rows ch e m).sum = T at *
    generalize hww : wt G n O rows ch e m = wf at *
    generalize hW' : (wts G n O rows ch (e + 1) (m - 1)).sum = W' at *
    have hWbig : W ≤ big := by omega
    have hTbig : T ≤ big := by omega
    generalize 252 * 20 ^ 10 * 20 = BB at *
    have lq : (V.list q).len = (n : Int) + 1 := by simp [V.len, show ∀ l, (V.list l).els = l from fun _ => rfl, hql]
    have e5 : (V.list [V.list q, .int 0]).get 0 = .list q := rfl
    have e51 : ((V.list [V.list q, .int 0]).get 1).toI = 0 := rfl
    -- the loop
    have loop : ∀ (NX : V), NX = (if m = 0 then .list [qn 0 0, .int 4] else .list [can W' W, .int 0]) → ∀ (t i : Nat) (i' s0 s1 m0 m1 : Int) (S U : Nat), t + i = n + 1 → i' = i → S = ((wts G n O rows ch e m).take i).sum → U = ((tls G n O rows ch e m).take i).sum → s0 = ((S / S.gcd W : Nat) : Int) → s1 = ((W / S.gcd W : Nat) : Int) → m0 = ((U / U.gcd W : Nat) : Int) → m1 = ((W / U.gcd W : Nat) : Int) → Comes LiftMeans.K LiftMeans.f LiftMeans.s1 ⟨[s0, s1, m0, m1, i'], [], [D, Kn, .bool true, lv G n O R, .list [.int z, .int e, .int ch], .list [.list q, .int 0], NX, can 0 1, can 0 1]⟩ (.bool true) := by
      intro NX hNX t
      induction t with
      | zero =>
        intro i i' s0 s1 m0 m1 S U ht hi hS hU h0 h1 h2 h3
        have : i = n + 1 := by omega
        subst this hi
        rw [List.take_of_length_le (by omega), hWW] at hS
        rw [List.take_of_length_le (by simp [tls]), hTT] at hU
        subst hS hU
        have o1 := of_can (a := 1) (b := 1) (by omega) (by omega) (by omega)
        have oe := of_can (a := e) (b := 1) (by omega) (by omega) (by omega)
        have c11 := can_inj (can_eq (a := S) (b := S) (c := 1) (d := 1) hWp (by omega) (by omega))
        by_cases hm0 : m = 0
        · rw [if_pos hm0] at hts
          have cU := can_inj (can_eq (a := U) (b := S) (c := e) (d := 1) hWp (by omega) (by omega))
          refine Comes.last progOk LiftMeans.p28 [can e 1, can 1 1] ?_ ?_
          · simp only [EvOk, E.b, E.i, E.v, Env.ext, List.map_cons, List.map_nil, List.cons_append, List.nil_append, List.append_nil, List.getD_cons_zero, List.getD_cons_succ, toI_int', toB_bool', ltB_iff, leB_iff, eqB_iff, eqB_not, ltB_not, leB_not, Bool.not_eq_true', Bool.not_eq_false', Bool.not_not, Bool.and_eq_true, and_true, true_and]
            simp only [e5, lq, l1, x0, x1, can0, can1, toI_int']
            exact ⟨by omega, oe, by omega, o1, by rw [h0, c11.1], by rw [h1, c11.2]⟩
          · simp only [EvOk, E.b, E.i, E.v, Env.ext, List.map_cons, List.map_nil, List.cons_append, List.nil_append, List.append_nil, List.getD_cons_zero, List.getD_cons_succ, toI_int', toB_bool', ltB_iff, leB_iff, eqB_iff, eqB_not, ltB_not, leB_not, Bool.not_eq_true', Bool.not_eq_false', Bool.not_not, Bool.and_eq_true, and_true, true_and]
            simp only [can0, can1, toI_int']
            rw [h2, h3, cU.1, cU.2]; simp [eqB]
        · rw [if_neg hm0] at hts hNX
          subst hNX
          have cU := can_eq (a := U) (b := S) (c := e * S + W' * m) (d := S) hWp hWp (by rw [hts, Nat.mul_comm m W'])
          have oM := of_can (a := m) (b := 1) (by omega) (by omega) (by omega)
          refine Comes.last progOk LiftMeans.p26 [can e 1, .bool true, can m 1, .list [can (W' * m) S, .bool true], .list [can U S, .bool true], can 1 1] ?_ ?_
          · simp only [EvOk, E.b, E.i, E.v, Env.ext, List.map_cons, List.map_nil, List.cons_append, List.nil_append, List.append_nil, List.getD_cons_zero, List.getD_cons_succ, toI_int', toB_bool', ltB_iff, leB_iff, eqB_iff, eqB_not, ltB_not, leB_not, Bool.not_eq_true', Bool.not_eq_false', Bool.not_not, Bool.and_eq_true, and_true, true_and]
            have ee0 : (V.list [can W' S, .int 0]).get 0 = can W' S := rfl
            have ee1 : (V.list [can (W' * m) S, .bool true]).get 0 = can (W' * m) S := rfl
            have ee2 : (V.list [can U S, .bool true]).get 0 = can U S := rfl
            simp only [e5, lq, l1, x0, x1, ee0, ee1, ee2]
            have hop : (n : Int) - z - e = m := by omega
            simp only [hop]
            have hmW : W' * m ≤ U := by rw [hts, Nat.mul_comm m W']; omega
            have fM := mul_can (a := W') (c := m) hWp (by omega) (by have := hW'1 hm0; omega) (by omega) hWbig
            have fA := add_can (a := e * S) (c := W' * m) (W := S) hWp (by rw [hts, Nat.mul_comm m W'] at hTbig; exact hTbig) hWbig
            rw [← cU, ← can_eq (a := e) (b := 1) (c := e * S) (d := S) (by omega) hWp (by omega)] at fA
            refine ⟨by omega, oe, by omega, right_can hWp (by have := hW'1 hm0; omega) hWbig, oM, fM, fA, rfl, rfl, o1, ?_, ?_⟩
            · rw [can0, h0, c11.1]; rfl
            · rw [can1, h1, c11.2]; rfl
          · simp only [EvOk, E.b, E.i, E.v, Env.ext, List.map_cons, List.map_nil, List.cons_append, List.nil_append, List.append_nil, List.getD_cons_zero, List.getD_cons_succ, toI_int', toB_bool', ltB_iff, leB_iff, eqB_iff, eqB_not, ltB_not, leB_not, Bool.not_eq_true', Bool.not_eq_false', Bool.not_not, Bool.and_eq_true, and_true, true_and]
            have ee2 : (V.list [can U S, .bool true]).get 0 = can U S := rfl
            simp only [ee2, can0, can1, toI_int']
            rw [h2, h3]; simp [eqB]
      | succ t ih =>
        intro i i' s0 s1 m0 m1 S U ht hi hS hU h0 h1 h2 h3
        subst hi
        have hil : i < n + 1 := by omega
        have hwS := sum_take _ i _ (hwi i hil)
        have hwU := sum_take _ i _ (hti i hil)
        have hS2 := take_sum_le (wts G n O rows ch e m) (i + 1)
        have hU2 := take_sum_le (tls G n O rows ch e m) (i + 1)
        have hwB := hwl i
        have hwi9 : i * wf i ≤ big := by
          have : i * wf i ≤ 10 * BB := Nat.mul_le_mul (by omega) hwB
          omega
        have qi := hqi i hil
        have oi := of_can (a := i) (b := 1) (by omega) (by omega) (by omega)
        have fR := right_can (w := wf i) hWp (by omega) hWbig
        have fM := mul_can (a := wf i) (c := i) hWp (by rw [Nat.mul_comm]; exact hwi9) (by omega) (by omega) hWbig
        have fA := add_can (a := U) (c := wf i * i) hWp (by rw [Nat.mul_comm]; omega) hWbig
        have fB := add_can (a := S) (c := wf i) hWp (by omega) hWbig
        have nx := ih (i + 1) ((i : Int) + 1) _ _ _ _ (S + wf i) (U + wf i * i) (by omega) (by omega) (by omega) (by rw [Nat.mul_comm]; omega) rfl rfl rfl rfl
        subst h0 h1 h2 h3
        by_cases hwf : wf i = 0
        · refine Comes.step progOk LiftMeans.p22 [.bool true, can i 1, .list [can (wf i * i) W, .bool true], .list [can (U + wf i * i) W, .bool true], .list [can (S + wf i) W, .bool true]] ?_ nx
          simp only [EvOk, E.b, E.i, E.v, Env.ext, List.map_cons, List.map_nil, List.cons_append, List.nil_append, List.append_nil, List.getD_cons_zero, List.getD_cons_succ, toI_int', toB_bool', ltB_iff, leB_iff, eqB_iff, eqB_not, ltB_not, leB_not, Bool.not_eq_true', Bool.not_eq_false', Bool.not_not, Bool.and_eq_true, and_true, true_and]
          simp only [e5, lq, l1, x0, x1, qi]
          refine ⟨by omega, by omega, fR, by rw [can0]; exact Int.natCast_nonneg _, by rw [can0, hwf]; simp [V.toI], oi, fM, fA, fB, rfl, rfl, rfl, by omega⟩
        · have hz := hwz i hwf
          refine Comes.step progOk LiftMeans.p18 [.bool true, can i 1, .list [can (wf i * i) W, .bool true], .list [can (U + wf i * i) W, .bool true], .list [can (S + wf i) W, .bool true]] ?_ nx
          simp only [EvOk, E.b, E.i, E.v, Env.ext, List.map_cons, List.map_nil, List.cons_append, List.nil_append, List.append_nil, List.getD_cons_zero, List.getD_cons_succ, toI_int', toB_bool', ltB_iff, leB_iff, eqB_iff, eqB_not, ltB_not, leB_not, Bool.not_eq_true', Bool.not_eq_false', Bool.not_not, Bool.and_eq_true, and_true, true_and]
          simp only [e5, lq, l1, x0, x1, qi]
          have hpos : 0 < wf i / (wf i).gcd W := Nat.div_pos (Nat.gcd_le_left _ (Nat.pos_of_ne_zero hwf)) (Nat.gcd_pos_of_pos_right _ hWp)
          refine ⟨by omega, by omega, fR, by rw [can0]; exact Int.natCast_nonneg _, by rw [can0]; exact Int.natCast_pos.2 hpos, by omega, by omega, by omega, oi, fM, fA, fB, rfl, rfl, rfl, by omega⟩
    have zz : can 0 1 = can 0 W := can_eq (by omega) hWp (by omega)
    have z1 := can_inj zz
    have o0 := of_can (a := 0) (b := 1) (by omega) (by omega) (by omega)
    by_cases hm0 : m = 0
    · rw [if_pos hm0] at f23
      have L := loop (.list [qn 0 0, .int 4]) (by rw [if_pos hm0]) (n + 1) 0 0 (((can 0 1).get 0).toI) (((can 0 1).get 1).toI) (((can 0 1).get 0).toI) (((can 0 1).get 1).toI) 0 0 (by omega) rfl rfl rfl (by rw [can0, z1.1]; rfl) (by rw [can1, z1.2]; rfl) (by rw [can0, z1.1]; rfl) (by rw [can1, z1.2]; rfl)
      refine Fn.of (C := LiftMeans.K) LiftMeans.b (Comes.step progOk LiftMeans.p9 [.bool true, lv G n O R, .list [.int z, .int e, .int ch], .list [.list q, .int 0], .list [qn 0 0, .int 4], can 0 1, can 0 1] ?_ L)
      simp only [EvOk, E.b, E.i, E.v, Env.ext, List.map_cons, List.map_nil, List.cons_append, List.nil_append, List.append_nil, List.getD_cons_zero, List.getD_cons_succ, toI_int', toB_bool', ltB_iff, leB_iff, eqB_iff, eqB_not, ltB_not, leB_not, Bool.not_eq_true', Bool.not_eq_false', Bool.not_not, Bool.and_eq_true, and_true, true_and]
      refine ⟨wakes_spec, d17, d16, f20, f23, ?_⟩
      simp only [l1, x0, x1, e5, lq]
      refine ⟨by omega, by omega, rfl, ?_⟩
      exact ⟨by omega, trivial, by decide, rfl, by omega, o0, o0⟩
    · rw [if_neg hm0, if_neg hW0] at f23
      have L := loop (.list [can W' W, .int 0]) (by rw [if_neg hm0]) (n + 1) 0 0 (((can 0 1).get 0).toI) (((can 0 1).get 1).toI) (((can 0 1).get 0).toI) (((can 0 1).get 1).toI) 0 0 (by omega) rfl rfl rfl (by rw [can0, z1.1]; rfl) (by rw [can1, z1.2]; rfl) (by rw [can0, z1.1]; rfl) (by rw [can1, z1.2]; rfl)
      refine Fn.of (C := LiftMeans.K) LiftMeans.b (Comes.step progOk LiftMeans.p10 [.bool true, lv G n O R, .list [.int z, .int e, .int ch], .list [.list q, .int 0], .list [can W' W, .int 0], can 0 1, can 0 1] ?_ L)
      simp only [EvOk, E.b, E.i, E.v, Env.ext, List.map_cons, List.map_nil, List.cons_append, List.nil_append, List.append_nil, List.getD_cons_zero, List.getD_cons_succ, toI_int', toB_bool', ltB_iff, leB_iff, eqB_iff, eqB_not, ltB_not, leB_not, Bool.not_eq_true', Bool.not_eq_false', Bool.not_not, Bool.and_eq_true, and_true, true_and]
      refine ⟨wakes_spec, d17, d16, f20, f23, ?_⟩
      simp only [l1, x0, x1, e5, lq]
      refine ⟨by omega, by omega, rfl, ?_⟩
      exact ⟨by omega, trivial, rfl, o0, o0⟩
end X
namespace Go.Sym
open Go Go.Abs
theorem WT.struct {P : Program} {d : Nat} {t : TypeId} {x : V} {fields : Array Field} (hu : P.underlying t = some (.struct fields)) (h : WT P (d + 1) t x) : ∃ xs, x = .list xs ∧ xs.length = fields.toList.length ∧ ∀ (i : Nat) f y, fields.toList[i]? = some f → xs[i]? = some y → WT P d f.type y := by
  unfold WT at h; rw [hu] at h; exact h
theorem WT.intv {P : Program} {d : Nat} {t : TypeId} {x : V} {k : IntKind} (hu : P.underlying t = some (.int k)) (h : WT P (d + 1) t x) : ∃ n, x = .int n ∧ k.min ≤ n ∧ n ≤ k.max := by
  unfold WT at h; rw [hu] at h; exact h
theorem WT.slice {P : Program} {d : Nat} {t et : TypeId} {x : V} (hu : P.underlying t = some (.slice et)) (h : WT P (d + 1) t x) : x = .nil ∨ ∃ l, x = .list l ∧ l.length ≤ Go.maxLen ∧ ∀ y ∈ l, WT P d et y := by
  unfold WT at h; rw [hu] at h; exact h
end Go.Sym
