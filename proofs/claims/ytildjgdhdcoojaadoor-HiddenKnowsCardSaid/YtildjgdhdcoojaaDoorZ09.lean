/- Texts of the claim: SymGhost3, SymTreeOps, SymTreeOps2, SymTreeOps3, SymHeavy2, SymFrame, SymFn. -/
import Derived.Test.YtildjgdhdcoojaaDoorZ08
set_option linter.unusedVariables false
set_option linter.unusedSimpArgs false
namespace Go.Sym
open Go Go.a9
section
variable {P : Program} {h h' : ah} {H H' : Hid} {ρ : Env} {h0 : ah} {sh sh' : ae}
theorem yA {et t : TypeId} {off : Nat} {j : Option Nat} (hj : partAt P et off t = some j) (e x : E) : nW P et e off t x = some (dF e x j) := by
 unfold partAt at hj
 unfold nW
 cases hb : (Nat.beq off 0 && Nat.beq t et) with
 | true => rw [hb] at hj; simp at hj; subst hj; rfl
 | false =>
  rw [hb] at hj
  simp only [cond_false] at hj ⊢
  split at hj
  ·rename_i fields hu
   split at hj
   ·rename_i k f hf
    obtain ⟨ht, hj⟩ := aj hj
    cases hj
    simp only [hu, hf, ht, cond_true]; rfl
   ·cases hj
  ·cases hj
theorem lV (R : HR P h0 h H ρ sh) {b : Nat} {ob o1 : b5} {acs : List AV} (hg : sh.get b = some ob) (ht : bf ob = true) (ht1 : bf o1 = false) (ho1 : own o1 = true)
  (h1 : ∀ H', aM h H h H' -> H'.ν = H.ν -> H'.κb b sh.next = acs -> (∀ c, H'.S c ↔ H.S c \/ c ∈ H.fp b) -> db P h H' ρ b o1) :
  ∃ H', aM h H h H' /\ HR P h0 h H' ρ { sh with next := sh.next + 1, t := sh.t.set b o1 } /\ aS h0 H H' := by
 have hx : aM h H h { H with κb := fun c v => if c = b /\ v = sh.next then acs else H.κb c v, S := fun c => H.S c \/ c ∈ H.fp b } := ⟨fun _ _ e => e, fun _ _ _ e => e, fun c v j av e => by
   simp only
   split
   ·rename_i hc; obtain ⟨rfl, rfl⟩ := hc; rw [R.kb _ _ (Nat.le_refl _)] at e; simp at e
   ·exact e, fun b hb => ⟨.inl hb, fun _ e => e⟩⟩
 have hget : ∀ {c : Nat} {o : b5}, ({ sh with next := sh.next + 1, t := sh.t.set b o1 } : ae).get c = some o -> (c = b /\ o = o1) \/ (c ≠ b /\ sh.get c = some o) := by
  intro c o he
  have : (sh.t.set b o1).get c = some o := he
  rw [Tr.aP] at this
  split at this
  ·rename_i hc; cases this; exact .inl ⟨hc, rfl⟩
  ·rename_i hc; exact .inr ⟨hc, this⟩
 have has1 : ∀ {a : Nat}, Has { H with κb := fun c v => if c = b /\ v = sh.next then acs else H.κb c v, S := fun c => H.S c \/ c ∈ H.fp b } o1 b a -> Has H ob b a /\ a ∉ H.fp b := by
  rintro a (⟨l, n, l1⟩ | ⟨t, m⟩)
  ·exact ⟨.inl ⟨l, n, l1⟩, (R.ks hg ht).2 _ _ n l1⟩
  ·rw [ht1] at t; cases t
 refine ⟨_, hx, ?_, fun a ha => ha.elim .inl fun q => .inr (R.tr.lt _ _ hg ht _ q).2.1⟩
 refine HR.build ?_ ?_ R.next R.cJ (fun c hc => R.cR c (by have : sh.next + 1 <= c := hc; omega)) R.cV R.ka ?_ R.none_ ?_ ?_ ?_ ?_
 ·intro x o ex
  rcases hget ex with ⟨rfl, rfl⟩ | ⟨hxb, ex⟩
  ·exact h1 _ hx rfl (by simp) fun _ => Iff.rfl
  ·exact db.mono hx (fun _ => ⟨rfl, gD.refl _ _⟩) (fun _ _ _ _ _ q => q) (fun _ _ _ _ => by simp only; rw [if_neg (fun q => hxb q.1)]) (fun _ _ => rfl) (R.bj _ _ ex)
 ·rintro a (q | q)
  ·exact R.fN _ q
  ·exact (R.tr.lt _ _ hg ht _ q).2.2
 ·intro c v hv
  have hv : sh.next + 1 <= v := hv
  simp only; rw [if_neg (by omega)]; exact R.kb _ _ (by omega)
 ·intro x o ex
  show x < sh.next + 1
  rcases hget ex with ⟨rfl, rfl⟩ | ⟨hxb, ex⟩
  ·have := R.b4 _ _ hg; omega
  ·have := R.b4 _ _ ex; omega
 ·intro x y o o' a ex ey wx wy gx gy
  rcases hget ex with ⟨ex1, ex2⟩ | ⟨hxb, ex'⟩
  ·subst ex1 ex2
   rcases hget ey with ⟨ey1, ey2⟩ | ⟨hyb, ey'⟩
   ·exact ey1.symm
   ·exact R.eN hg ey' (bM ht) wy (has1 gx).1 gy
  ·rcases hget ey with ⟨ey1, ey2⟩ | ⟨hyb, ey'⟩
   ·subst ey1 ey2; exact R.eN ex' hg wx (bM ht) gx (has1 gy).1
   ·exact R.eN ex' ey' wx wy gx gy
 ·intro x o a ex wx gx
  rcases hget ex with ⟨ex1, ex2⟩ | ⟨hxb, ex'⟩
  ·subst ex1 ex2
   obtain ⟨g1, g2⟩ := has1 gx
   obtain ⟨q1, q2, q3⟩ := R.hasB hg (bM ht) g1
   exact ⟨fun q => q.elim q1 g2, q2, q3⟩
  ·obtain ⟨q1, q2, q3⟩ := R.hasB ex' wx gx
   exact ⟨fun q => q.elim q1 fun q => hxb (R.eN ex' hg wx (bM ht) gx (.inr ⟨ht, q⟩)), q2, q3⟩
 ·intro x o ex tx
  rcases hget ex with ⟨ex1, ex2⟩ | ⟨hxb, ex'⟩
  ·subst ex1 ex2; rw [ht1] at tx; cases tx
  ·exact R.ks ex' tx
theorem kD (R : HR P h0 h H ρ sh) (b : Nat) : ∃ H', aM h H h H' /\ HR P h0 h H' ρ (iU P sh b) /\ aS h0 H H' := by
 have stay : ∃ H', aM h H h H' /\ HR P h0 h H' ρ sh /\ aS h0 H H' := ⟨H, aM.refl _ _, R, aS.refl _ _⟩
 unfold iU
 split
 ·rename_i t e hg
  have ho := R.bj _ _ hg
  cases ho with
  | eH q1 q2 q3 q4 q5 =>
   exact lV R (acs := []) hg rfl rfl rfl fun H' x n k s => .iA q1 (by rw [n]; exact q2) q3 q4
  | tree q1 q2 q3 q4 =>
   exact lV R hg rfl rfl rfl fun H' x n k s => .arr q1 (by rw [n]; exact q2) ⟨q3.size, q3.pos, q3.len, q3.get, q4.zD fun _ _ K hK q => q.pv fun c hc => (s c).2 (.inr (hK c hc))⟩ k
 ·rename_i t e i off st c hg
  split
  case h_2 => exact stay
  rename_i j et t' e' n' hj hu hc
  cases hcc : (Nat.beq t' et && fL P 10 et) with
  | false => exact stay
  | true =>
   simp only [Bool.and_eq_true] at hcc
   obtain ⟨ht, hfin⟩ := hcc
   have ht := aq ht
   subst ht
   simp only [cond_true]
   have ho := R.bj _ _ hg
   cases ho with
   | jf q1 q2 q3 q4 q5 =>
    rename_i m j' a len sz l acs
    have hjj : j' = j := by have := q4.part; rw [hj] at this; cases this; rfl
    subst hjj
    obtain ⟨av, k1, k2⟩ := q4.ya
    have hm : m < l.length := q4.lt
    have hsd : SD P h H ρ (.pure t' e' (.cell n' 0)) av := kh R k2.view (by simp [pq, hc])
    have hplt := (List.getElem?_eq_some_iff.1 k1).1
    refine lV R (acs := acs) hg rfl rfl rfl fun H' x n k s => .arr (l := l.set m (((V.list l).get (Int.ofNat m)).put (e'.v ρ) j')) ?_ (by rw [n]; exact q2) ⟨q3.size, q3.pos, by rw [q3.len]; simp, q3.get, ?_⟩ k
    ·simp only [E.v, jR, get'_v, q1, q4.ix, V.set, V.bx, Int.ofNat_eq_natCast, Int.toNat_natCast]
    ·have row : bQ sz (PV P h H'.S deep t) (l.set m (((V.list l).get (Int.ofNat m)).put .nil j')) (aB acs (m * sz + off) [.aV]) := q5.zD fun _ _ K hK q => q.pv fun c hc => (s c).2 (.inr (hK c hc))
     obtain ⟨ce, re, w1, w2, w3⟩ := row.get m _ (List.getElem?_set_self hm)
     -- the header
     have hst1 : aA P st = some 1 := by
      obtain ⟨d, cc, r, F1, G0, F2, d1, d2, _, _, _, w4, _⟩ := dA hj q5 (m := m) (by simpa using hm)
      obtain ⟨d, rfl⟩ : ∃ d', d = d' + 1 := ⟨d - 1, by omega⟩
      have := w4.length
      obtain ⟨_, _, x1, _⟩ := lk hu w4
      rw [this, x1]; rfl
     have gv : PV P h H'.S 11 st (e'.v ρ) [av] := by
      cases hsd.mono x with
      | pure z1 z2 z3 z4 =>
       refine ⟨hst1, ?_⟩
       rw [hu]
       exact ⟨av, _, rfl, z2, z3, z4.imp (fun _ _ q => PV.fin hfin q) fun b hb => ⟨hb, fun _ q => q⟩⟩
     have hval : (dF (e.get' i) .nil j').v ρ = ((V.list l).get (Int.ofNat m)).put .nil j' := by rw [jR, get'_v, q1, q4.ix]; rfl
     obtain ⟨p1, p2, p3⟩ := qg (ρ := ρ) (yA hj (dF (e.get' i) .nil j') e') (by rw [hval]; exact w3) gv (by simp)
     have hrl := row.length
     have hmle : (m + 1) * sz <= l.length * sz := Nat.mul_le_mul_right _ hm
     rw [Nat.succ_mul] at hmle
     simp only [List.length_set] at hrl
     have r2 := row.set (x := (dF (dF (e.get' i) .nil j') e' j').v ρ) (c := aB ce off [av]) (by rw [p3]; exact w2) p2 m (by simpa using hm)
     rw [<- jx w1 p1 (by rw [hrl]; omega), nU k1, List.set_set] at r2
     have : (dF (dF (e.get' i) .nil j') e' j').v ρ = ((V.list l).get (Int.ofNat m)).put (e'.v ρ) j' := by
      rw [jR, hval]
      rcases im hj with ⟨rfl, _, _⟩ | ⟨k, f, fields, rfl, _⟩
      ·rfl
      ·simp only [V.put, V.set, V.bx]; simp
     rw [this] at r2
     exact r2
 ·exact stay
theorem oL (R : HR P h0 h H ρ sh) (b : Nat) (i : E) (off : Nat) (t : TypeId) (hl : bo ρ (vV P sh b i off t).2) : ∃ H', aM h H h H' /\ HR P h0 h H' ρ (vV P sh b i off t).1 /\ aS h0 H H' := by
 unfold vV at hl ⊢
 split
 ·rename_i t0 e0 i' off' st c hg
  rw [hg] at hl
  simp only at hl
  cases hc : (decide (i = i') && Nat.beq off off' && Nat.beq st t) with
  | true => exact ⟨H, aM.refl _ _, R, aS.refl _ _⟩
  | false =>
   rw [hc] at hl
   simp only [cond_false] at hl ⊢
   obtain ⟨H1, x1, R1, s1⟩ := dc 6 R b
   obtain ⟨H2, x2, R2, s2⟩ := uB R1 b i off t hl
   exact ⟨H2, x1.trans x2, R2, s1.trans s2⟩
 ·rename_i hne
  split at hl
  ·rename_i hg
   exact (hne _ _ _ _ _ _ hg).elim
  ·exact uB R b i off t hl
theorem CY (R : HR P h0 h H ρ sh) (hJ : Bool) (b : Nat) (i : E) (off : Nat) (t : TypeId) (hl : bo ρ (DS P hJ sh b i off t).2) : ∃ H', aM h H h H' /\ HR P h0 h H' ρ (DS P hJ sh b i off t).1 /\ aS h0 H H' := by
 unfold DS at hl ⊢
 split
 ·rename_i i1 _ i2 _ hg
  rw [hg] at hl
  simp only at hl
  cases hc : ((decide (i = i1) || decide (i = i2)) && Nat.beq off 0) with
  | true => exact ⟨H, aM.refl _ _, R, aS.refl _ _⟩
  | false =>
   rw [hc] at hl
   simp only [cond_false] at hl ⊢
   obtain ⟨H1, x1, R1, s1⟩ := dc 6 R b
   obtain ⟨H2, x2, R2, s2⟩ := oL R1 b i off t hl
   exact ⟨H2, x1.trans x2, R2, s1.trans s2⟩
 ·rename_i i' _ _ _ hg
  rw [hg] at hl
  simp only at hl
  cases hc : (hJ && !decide (i = i') && Nat.beq off 0) with
  | true => rw [hc] at hl; exact Ax R b i t hl
  | false => rw [hc] at hl; exact oL R b i off t hl
 ·rename_i hn1 hn2
  split at hl
  ·rename_i hg
   exact (hn1 _ _ _ _ _ _ _ hg).elim
  ·rename_i hg
   exact (hn2 _ _ _ _ _ _ hg).elim
  ·exact oL R b i off t hl
theorem kW (R : HR P h0 h H ρ sh) (x : SV) : ∃ H', aM h H h H' /\ HR P h0 h H' ρ (eU P sh x) /\ aS h0 H H' := by
 unfold eU
 split
 ·exact dc 6 R _
 ·exact ⟨H, aM.refl _ _, R, aS.refl _ _⟩
theorem lX (R : HR P h0 h H ρ sh) (x : SV) : ∃ H', aM h H h H' /\ HR P h0 h H' ρ (gO P sh x) /\ aS h0 H H' := by
 unfold gO
 split
 ·exact kD R _
 ·exact ⟨H, aM.refl _ _, R, aS.refl _ _⟩
theorem cY {sh1 : ae} {f : ae -> ae} (g : ∃ H', aM h H h H' /\ HR P h0 h H' ρ sh1 /\ aS h0 H H') (k : ∀ H', HR P h0 h H' ρ sh1 -> ∃ H'', aM h H' h H'' /\ HR P h0 h H'' ρ (f sh1) /\ aS h0 H' H'') : ∃ H', aM h H h H' /\ HR P h0 h H' ρ (f sh1) /\ aS h0 H H' := by
 obtain ⟨H1, x1, R1, s1⟩ := g
 obtain ⟨H2, x2, R2, s2⟩ := k H1 R1
 exact ⟨H2, x1.trans x2, R2, s1.trans s2⟩
theorem uz (R : HR P h0 h H ρ sh) (b : Nat) (i : E) (t : TypeId) (hl : bo ρ (qv P sh b i t).2) : ∃ H', aM h H h H' /\ HR P h0 h H' ρ (qv P sh b i t).1 /\ aS h0 H H' := by
 have stay : ∃ H', aM h H h H' /\ HR P h0 h H' ρ sh /\ aS h0 H H' := ⟨H, aM.refl _ _, R, aS.refl _ _⟩
 unfold qv at hl ⊢
 split
 case h_2 => exact stay
 rename_i t' e ib hg
 rw [hg] at hl
 simp only at hl
 split
 case h_2 => exact stay
 rename_i et hu
 rw [hu] at hl
 simp only at hl
 cases hcc : (Nat.beq t t' && fL P 11 et) with
 | false => exact stay
 | true =>
  rw [hcc] at hl
  simp only [cond_true] at hl ⊢
  simp only [Bool.and_eq_true] at hcc
  obtain ⟨ht, hfin⟩ := hcc
  have ht := aq ht
  subst ht
  have hnil : ((E.isNil (e.get' i)).b ρ) = true := hl _ (by simp)
  have hi := ew.1 (fun c hc => hl c (by simp [hc]) : bo ρ (mC i e.len'))
  rw [len'_i] at hi
  have ho := R.bj _ _ hg
  have hbn := R.b4 _ _ hg
  cases ho with
  | iA q1 q2 _ _ => rw [q1] at hi; simp [V.len, V.bx] at hi; omega
  | arr q1 q2 q3 q4 =>
   rename_i a len sz l acs
   rw [q1] at hi
   obtain ⟨m, hm1, hm2, hm3⟩ := dO hi.1 hi.2
   have hm : m < l.length := hm2
   have hlm : l[m]? = some l[m] := List.getElem?_eq_getElem hm
   obtain ⟨c, r, w1, w2, w3⟩ := q3.row.get m _ hlm
   have hv : ((V.list l).get (Int.ofNat m)) = l[m] := by simp [V.get, V.bx, hlm]
   have hx : l[m] = .nil := by
    have : ((e.get' i).v ρ).isNil = true := hnil
    rw [get'_v, q1, hm1, hv] at this
    cases hh : l[m] <;> rw [hh] at this <;> first | rfl | cases this
   rw [hx] at w3
   obtain ⟨z1, z2⟩ := w3
   rw [hu] at z2
   obtain ⟨av, se, rfl, z3, z4, z5⟩ := z2
   have hav : av = .aV := by
    rcases z5 with ⟨_, q⟩ | ⟨_, q, _⟩
    ·exact q
    ·cases q
   subst hav
   have hsz : sz = 1 := w2.symm
   subst hsz
   have hcell : acs[m]? = some .aV := by
    have := congrArg (fun l => l[0]?) w1
    simpa [List.getElem?_drop] using this
   obtain ⟨x1, R1⟩ := R.alias (o := .arr et .nil sh.next) (l := .nil) (acs := []) (fun a q => by cases q) (fun x => .iA rfl (by simp [Hid.new]) z3 z4)
   have hg1 : (sh.new (.arr et .nil sh.next)).get b = some (.arr t e ib) := by
    rw [ae.aQ, if_neg (by omega)]; exact hg
   obtain ⟨H2, x2, R2, s2⟩ := n6 (acs := []) (o1 := .dW t et e i sh.next) R1 hg1 rfl rfl rfl rfl fun H' x n k s => by
    have n1 : ∀ c l, H.ν c = some l -> H'.ν c = some l := fun c l e => by rw [n]; exact x1.nu _ _ e
    refine .dW (l := l) (m := m) q1 (n1 _ _ q2) z1 ⟨hu, hfin⟩ q3.len q3.get hm1 hm ⟨.aV, hcell, .inl ⟨by rw [n]; simp [Hid.new], rfl⟩⟩ ?_
    have e1 : l.set m .nil = l := by
     apply List.ext_getElem?
     intro k
     rw [List.getElem?_set]
     by_cases hk : m = k
     ·subst hk; rw [if_pos rfl, if_pos hm, hlm, hx]
     ·rw [if_neg hk]
    have e2 : acs.set m .aV = acs := by
     apply List.ext_getElem?
     intro k
     rw [List.getElem?_set]
     by_cases hk : m = k
     ·subst hk; rw [if_pos rfl, if_pos (List.getElem?_eq_some_iff.1 hcell).1, hcell]
     ·rw [if_neg hk]
    rw [e1, e2]
    exact q3.row.imp fun _ _ p => (p.mono x1.kept).mono x.kept
   exact ⟨H2, x1.trans x2, R2, fun a ha => (s2 a ha).imp id id⟩
theorem CX (R : HR P h0 h H ρ sh) (hJ : Bool) (b : Nat) (i : E) (t : TypeId) (hl : bo ρ (DR P hJ sh b i t).2) : ∃ H', aM h H h H' /\ HR P h0 h H' ρ (DR P hJ sh b i t).1 /\ aS h0 H H' := by
 have stay : ∃ H', aM h H h H' /\ HR P h0 h H' ρ sh /\ aS h0 H H' := ⟨H, aM.refl _ _, R, aS.refl _ _⟩
 unfold DR at hl ⊢
 split
 ·rename_i hg
  rw [hg] at hl
  simp only at hl
  cases hJ with
  | true => exact uz R b i t hl
  | false => exact stay
 ·rename_i t1 t2 e1 i' c1 hg
  rw [hg] at hl
  simp only at hl
  cases hJ with
  | true =>
   simp only [cond_true] at hl ⊢
   cases hd : decide (i = i') with
   | true => exact stay
   | false =>
    rw [hd] at hl
    exact cY (f := fun s => (qv P s b i t).1) (kF R b) fun _ R1 => uz R1 b i t hl
  | false => exact kF R b
 ·exact stay
theorem Aj (R : HR P h0 h H ρ sh) {hJ : Bool} {x : Tr SV} {o : Oper} (hl : bo ρ (rV P hJ sh x o).2) : ∃ H', aM h H h H' /\ HR P h0 h H' ρ (rV P hJ sh x o).1 /\ aS h0 H H' := by
 have stay : ∃ H', aM h H h H' /\ HR P h0 h H' ρ sh /\ aS h0 H H' := ⟨H, aM.refl _ _, R, aS.refl _ _⟩
 have two : ∀ {a b : SV}, ∃ H', aM h H h H' /\ HR P h0 h H' ρ (eU P (eU P sh a) b) /\ aS h0 H H' := fun {a b} => cY (f := fun s => eU P s b) (kW R a) fun _ R1 => kW R1 b
 have pre2 : ∀ {b : Nat} {i : E} {off : Nat} {t : TypeId}, bo ρ (vV P (match sh.get b with | some (.dh ..) => settle P 6 sh b | _ => sh) b i off t).2 -> ∃ H', aM h H h H' /\ HR P h0 h H' ρ (vV P (match sh.get b with | some (.dh ..) => settle P 6 sh b | _ => sh) b i off t).1 /\ aS h0 H H' := by
  intro b i off t hl
  split
  ·rename_i hg
   rw [hg] at hl
   obtain ⟨H1, x1, R1, s1⟩ := dc 6 R b
   obtain ⟨H2, x2, R2, s2⟩ := oL R1 b i off t hl
   exact ⟨H2, x1.trans x2, R2, s1.trans s2⟩
  ·rename_i hn
   split at hl
   ·rename_i hg
    exact (hn _ _ _ _ _ _ _ hg).elim
   ·exact oL R b i off t hl
 obtain ⟨dst, op, type, pos, after, guard⟩ := o
 unfold rV at hl ⊢
 simp only at hl ⊢
 split
 ·rename_i t a
  split
  ·rename_i b i off hq
   simp only [hq] at hl
   cases hc : (lG sh b && jW P t) with
   | true => rw [hc] at hl; exact CY R hJ b i off t hl
   | false =>
    rw [hc] at hl
    simp only [cond_false] at hl ⊢
    cases hz : Nat.beq off 0 with
    | true => rw [hz] at hl; exact CX R hJ b i t hl
    | false => exact stay
  ·exact stay
 ·rename_i t a y
  split
  ·rename_i b i off hq
   simp only [hq] at hl
   cases hc : lG sh b with
   | false =>
    simp only [cond_false]
    split
    ·rename_i i' _ _
     cases (decide (i = _) && Nat.beq off 0 && (match aU x y with | .view _ => true | _ => false))
     ·exact kF R b
     ·exact stay
    ·exact stay
   | true =>
    rw [hc] at hl
    simp only [cond_true] at hl ⊢
    cases hs : bA P deep t with
    | false => exact dc 6 R b
    | true =>
     rw [hs] at hl
     simp only [cond_true] at hl ⊢
     split
     ·rename_i hy
      simp only [hy] at hl
      exact pre2 hl
     ·rename_i hy
      simp only [hy] at hl
      exact pre2 hl
     ·exact cY (f := fun s => iU P s b) (dc 6 R b) fun _ R1 => kD R1 b
  ·exact stay
 ·rename_i t y l1 l2 l3
  exact cY (f := fun s => iw s (aU x y)) (kW R (aU x y)) fun _ R1 => qB R1 (aU x y)
 ·exact gV _ R
 ·rename_i bi args argTypes
  split
  ·rename_i s y hargs
   skip
   split
   ·exact two
   ·rename_i a c h1 h2
    have two' := two (a := aU x s) (b := aU x y)
    split
    ·exact cY (f := fun s => iU P s a) two' fun _ R1 => kD R1 a
    ·exact cY (f := fun s => iU P s c) two' fun _ R1 => kD R1 c
    ·exact two'
   ·exact cY (f := fun s1 => gO P s1 (aU x y)) (cY (f := fun s1 => gO P s1 (aU x s)) two fun _ R1 => lX R1 _) fun _ R1 => lX R1 _
  ·rename_i d s hargs
   exact cY (f := fun s1 => gO P s1 (aU x s)) two fun _ R1 => lX R1 _
  ·exact stay
 ·exact stay
theorem AW (sh : ae) (b : Nat) : (s8 P sh b).nv = sh.nv := by
 unfold s8
 split
 ·split
  ·rename_i et _ t' e' _ _ _
   cases (Nat.beq t' _ && fL P 10 _ && !Nat.beq b _) <;> rfl
  ·rfl
 ·rfl
theorem AU (sh : ae) (b : Nat) : (s7 P sh b).nv = sh.nv := by
 unfold s7
 split
 ·split
  ·rename_i t' e' _
   cases (Nat.beq t' _ && fL P 10 _ && !Nat.beq b _) <;> rfl
  ·rfl
 ·rfl
theorem dv : ∀ (n : Nat) (sh : ae) (b : Nat), (settle P n sh b).nv = sh.nv
 | 0, _, _ => rfl
 | n + 1, sh, b => by
  unfold settle
  split
  ·rw [AW, dv n]
  ·rw [dv n, AU, dv n]
  ·rfl
theorem kf : ∀ (l : List Nat) (sh : ae), (mr P sh l).nv = sh.nv
 | [], _ => rfl
 | b :: l, sh => by
  show (mr P (settle P 6 sh b) l).nv = _
  rw [kf l, dv]
theorem wX (sh : ae) (b : Nat) (i : E) (off : Nat) (st : TypeId) : (sE P sh b i off st).1.nv = sh.nv := by
 unfold sE
 split
 ·split <;> rfl
 ·rfl
theorem te (sh : ae) (b : Nat) (i : E) (off : Nat) (st : TypeId) : (vV P sh b i off st).1.nv = sh.nv := by
 unfold vV
 split
 ·rename_i i' off' st' c _
  cases (decide (i = i') && Nat.beq off off' && Nat.beq st' st)
  ·simp only [cond_false]; rw [wX, dv]
  ·rfl
 ·exact wX _ _ _ _ _
theorem Bx (sh : ae) (b : Nat) (i : E) (t : TypeId) : (uA P sh b i t).1.nv = sh.nv := by
 unfold uA
 split
 ·split
  ·generalize (Nat.beq _ t && Nat.beq _ t && Nat.beq _ 0) = q
   cases q <;> rfl
  ·rfl
 ·rfl
theorem DL (hJ : Bool) (sh : ae) (b : Nat) (i : E) (off : Nat) (st : TypeId) : (DS P hJ sh b i off st).1.nv = sh.nv := by
 unfold DS
 split
 ·rename_i i1 _ i2 _ _
  cases ((decide (i = i1) || decide (i = i2)) && Nat.beq off 0)
  ·simp only [cond_false]; rw [te, dv]
  ·rfl
 ·rename_i i' _ _ _ _
  cases (hJ && !decide (i = i') && Nat.beq off 0)
  ·exact te _ _ _ _ _
  ·exact Bx _ _ _ _
 ·exact te _ _ _ _ _
theorem mE (sh : ae) (b : Nat) : (iU P sh b).nv = sh.nv := by
 unfold iU
 split
 ·rfl
 ·split
  ·rename_i et t' e' n' _ _ _
   cases (Nat.beq t' et && fL P 10 et) <;> rfl
  ·rfl
 ·rfl
theorem cg (sh : ae) (x : SV) : (eU P sh x).nv = sh.nv := by
 unfold eU; split
 ·exact dv _ _ _
 ·rfl
theorem nL (sh : ae) (x : SV) : (gO P sh x).nv = sh.nv := by
 unfold gO; split
 ·exact mE _ _
 ·rfl
theorem nI (sh : ae) (x : SV) : (eY sh x).nv = sh.nv := by
 unfold eY; split
 ·split <;> rfl
 ·rfl
theorem mF (sh : ae) (b : Nat) : (lZ sh b).nv = sh.nv := by
 unfold lZ
 split
 ·simp only
  split
  ·rename_i t' e' n' _
   cases Nat.beq t' _
   ·rfl
   ·exact nI _ _
  ·rfl
 ·rfl
theorem freeze1_nv' (sh : ae) (x : SV) : (iw sh x).nv = sh.nv := by
 unfold iw; split
 ·rw [nI, mF]
 ·exact nI _ _
theorem wW (sh : ae) (b : Nat) (i : E) (t : TypeId) : (qv P sh b i t).1.nv = sh.nv := by
 unfold qv
 split
 ·split
  ·rename_i et _
   cases (Nat.beq t _ && fL P 11 et) <;> rfl
  ·rfl
 ·rfl
theorem DK (sh : ae) (hJ : Bool) (b : Nat) (i : E) (t : TypeId) : (DR P hJ sh b i t).1.nv = sh.nv := by
 unfold DR
 split
 ·cases hJ
  ·rfl
  ·exact wW _ _ _ _
 ·rename_i i' _ _
  cases hJ
  ·exact mF _ _
  ·simp only [cond_true]
   cases decide (i = _)
   ·simp only [cond_false]; rw [wW, mF]
   ·rfl
 ·rfl
theorem Bb (hJ : Bool) (sh : ae) (x : Tr SV) (o : Oper) : (rV P hJ sh x o).1.nv = sh.nv := by
 obtain ⟨dst, op, type, pos, after, guard⟩ := o
 unfold rV
 simp only
 split
 ·split
  ·rename_i b i off _
   cases (lG sh b && jW P _)
   ·simp only [cond_false]
    cases Nat.beq _ 0
    ·rfl
    ·exact DK _ _ _ _ _
   ·exact DL _ _ _ _ _ _
  ·rfl
 ·split
  ·rename_i b i off _
   cases (lG sh b)
   ·simp only [cond_false]
    split
    ·cases (decide (i = _) && Nat.beq off 0 && (match aU x _ with | .view _ => true | _ => false))
     ·exact mF _ _
     ·rfl
    ·rfl
   ·cases bA P deep _
    ·exact dv _ _ _
    ·simp only [cond_true]
     split
     ·rw [te]; split
      ·exact dv _ _ _
      ·rfl
     ·rw [te]; split
      ·exact dv _ _ _
      ·rfl
     ·simp only; rw [mE, dv]
  ·rfl
 ·simp only; rw [freeze1_nv', cg]
 ·exact kf _ _
 ·split
  ·skip
   split
   ·simp only; rw [cg, cg]
   ·split
    ·simp only; rw [mE, cg, cg]
    ·simp only; rw [mE, cg, cg]
    ·simp only; rw [cg, cg]
   ·simp only; rw [nL, nL, cg, cg]
  ·simp only; rw [nL, cg, cg]
  ·rfl
 ·rfl
end
end Go.Sym
namespace Go.Sym
open Go Go.a9
section
variable {P : Program} {h h' : ah} {H H' : Hid} {ρ : Env} {h0 : ah} {sh sh' : ae}
def tQ (h0 : ah) (H : Hid) (sh : ae) (a : Nat) : Prop := ¬ H.S a /\ h0.next <= a /\ ∀ x o, sh.get x = some o -> own o = true -> ¬ Has H o x a
theorem HR.free (R : HR P h0 h H ρ sh) {a : Nat} (ha : h.next <= a) : tQ h0 H sh a := by
 have := R.next
 exact ⟨fun q => by have := R.fN a q; omega, by omega, fun x o e w g => by have := (R.hasB e w g).2.2; omega⟩
theorem HR.make' (R : HR P h0 h H ρ sh) {o1 : b5} {l : Loc} {acs : List AV} {G : List Nat} {K : Nat -> Prop} (hn : h.next <= h'.next) (hsh : ∀ x o, sh'.get x = some o -> (x = sh.next /\ o = o1) \/ (x ≠ sh.next /\ ¬ K x /\ sh.get x = some o)) (hnx : sh'.next = sh.next + 1) (hats : sh'.iz = sh.iz) (ho1 : own o1 = true)
  (hk : ∀ c, c < h.next -> h'.get c = h.get c \/ ∃ k ok, K k /\ sh.get k = some ok /\ own ok = true /\ Has H ok k c) (hnone : ∀ c, h'.next <= c -> h'.get c = none)
  (hhas : ∀ a, (l.at = some a \/ (bf o1 = true /\ a ∈ G)) -> (tQ h0 H sh a /\ a < h'.next) \/ ∃ k ok, K k /\ sh.get k = some ok /\ own ok = true /\ Has H ok k a)
  (hG : bf o1 = true -> G.Nodup /\ ∀ a, l.at = some a -> a ∉ G)
  (ho : ∀ H', aM h H h' H' -> H'.ν sh.next = some l -> H'.κb sh.next sh.next = acs -> H'.fp sh.next = G -> H'.S = H.S -> db P h' H' ρ sh.next o1) :
  ∃ H', aM h H h' H' /\ HR P h0 h' H' ρ sh' /\ aS h0 H H' /\ H'.ν sh.next = some l /\ (∀ a, H'.S a -> H.S a) /\ (∀ x, x ≠ sh.next -> H'.ν x = H.ν x /\ H'.fp x = H.fp x) /\ H'.fp sh.next = G := by
 have hS : ∀ c, H.S c -> h'.get c = h.get c := by
  intro c hc
  rcases hk c (R.fN c hc) with q | ⟨k, ok, _, e, w, g⟩
  ·exact q
  ·exact absurd hc (R.hasB e w g).1
 let H1 : Hid := { H with ν := fun c => if c = sh.next then some l else H.ν c, κb := fun c v => if c = sh.next /\ v = sh.next then acs else H.κb c v, fp := fun c => if c = sh.next then G else H.fp c }
 have hx : aM h H h' H1 := ⟨fun c l' e => by
   show (if c = sh.next then some l else H.ν c) = some l'
   rw [if_neg (by have := R.vu e; omega)]; exact e, fun _ _ _ e => e, fun c v j av e => by
   show (if c = sh.next /\ v = sh.next then acs else H.κb c v)[j]? = some av
   split
   ·rename_i hc; obtain ⟨rfl, rfl⟩ := hc; rw [R.kb _ _ (Nat.le_refl _)] at e; simp at e
   ·exact e, fun b hb => ⟨hb, fun _ e => by rw [hS b hb]; exact e⟩⟩
 have hasn : ∀ {a : Nat}, Has H1 o1 sh.next a -> (tQ h0 H sh a /\ a < h'.next) \/ ∃ k ok, K k /\ sh.get k = some ok /\ own ok = true /\ Has H ok k a := by
  rintro a (⟨l', n, l1⟩ | ⟨t, m⟩)
  ·have n : (if sh.next = sh.next then some l else H.ν sh.next) = some l' := n
   simp at n; subst n; exact hhas a (.inl l1)
  ·have m : a ∈ (if sh.next = sh.next then G else H.fp sh.next) := m
   simp at m; exact hhas a (.inr ⟨t, m⟩)
 have haso : ∀ {x : Nat} {o : b5} {a : Nat}, x ≠ sh.next -> Has H1 o x a -> Has H o x a := by
  rintro x o a hx (⟨l', n, l1⟩ | ⟨t, m⟩)
  ·have n : (if x = sh.next then some l else H.ν x) = some l' := n
   rw [if_neg hx] at n; exact .inl ⟨l', n, l1⟩
  ·have m : a ∈ (if x = sh.next then G else H.fp x) := m
   rw [if_neg hx] at m; exact .inr ⟨t, m⟩
 -- a block of an object that stays
 have stays : ∀ {x : Nat} {o : b5} {a : Nat}, ¬ K x -> sh.get x = some o -> own o = true -> Has H o x a -> h'.get a = h.get a := by
  intro x o a hK e w g
  rcases hk a (R.hasB e w g).2.2 with q | ⟨k, ok, hk1, e', w', g'⟩
  ·exact q
  ·have := R.eN e e' w w' g g'
   subst this; exact absurd hk1 hK
 refine ⟨H1, hx, ?_, fun a ha => .inl ha, by show (if sh.next = sh.next then some l else _) = _; simp, fun a ha => ha, fun x hx => ⟨if_neg hx, if_neg hx⟩, by show (if sh.next = sh.next then G else _) = _; simp⟩
 refine HR.build ?_ (fun a ha => by have := R.fN a ha; omega) (Nat.le_trans R.next hn) ?_ ?_ ?_ (by rw [hats]; exact R.ka) ?_ hnone ?_ ?_ ?_ ?_
 ·intro x o ex
  rcases hsh x o ex with ⟨rfl, rfl⟩ | ⟨hxn, hxK, ex⟩
  ·exact ho H1 hx (by show (if sh.next = sh.next then some l else _) = _; simp) (by show (if sh.next = sh.next /\ sh.next = sh.next then acs else _) = _; simp) (by show (if sh.next = sh.next then G else _) = _; simp) rfl
  ·by_cases w : own o = true
   ·refine db.mono hx (fun t => ⟨by show (if x = sh.next then G else _) = _; rw [if_neg hxn], fun a ha ob g => by rw [stays hxK ex w (.inr ⟨t, ha⟩)]; exact g⟩) ?_ ?_ (fun _ _ => rfl) (R.bj _ _ ex)
    ·intro l' a n1 l1 ob g
     rw [stays hxK ex w (.inl ⟨l', n1, l1⟩)]; exact g
    ·intro t e ib _
     show (if x = sh.next /\ ib = sh.next then acs else _) = _
     rw [if_neg (fun q => hxn q.1)]
   ·have ho' := R.bj _ _ ex
    cases ho' with
    | ic q1 q2 q3 q4 q5 => exact .ic q1 q2 q3 (hx.nu _ _ q4) q5
    | dK q1 q2 q3 q4 q5 => exact .dK q1 (hx.nu _ _ q2) (q3.mono hx (by rw [hS _ q4]; exact q3.get)) q4 q5
    | _ => exact absurd rfl w
 ·intro c hc
  have := R.next
  rcases hk c (by omega) with q | ⟨k, ok, _, e, w, g⟩
  ·rw [q]; exact R.cJ c hc
  ·have := (R.hasB e w g).2.1; omega
 ·intro b hb
  show (if b = sh.next then some l else H.ν b) = none
  rw [if_neg (by omega)]; exact R.cR _ (by omega)
 ·intro b l' a n l1
  have n : (if b = sh.next then some l else H.ν b) = some l' := n
  split at n
  ·cases n
   rcases hhas a (.inl l1) with q | ⟨k, ok, _, e, w, g⟩
   ·exact q.2
   ·have := (R.hasB e w g).2.2; omega
  ·have := R.cV _ _ _ n l1; omega
 ·intro b v hv
  show (if b = sh.next /\ v = sh.next then acs else H.κb b v) = []
  rw [if_neg (by omega)]; exact R.kb _ _ (by omega)
 ·intro x o ex
  rw [hnx]
  rcases hsh x o ex with ⟨rfl, rfl⟩ | ⟨hxn, hxK, ex⟩
  ·omega
  ·have := R.b4 _ _ ex; omega
 ·intro x y o o' a ex ey wx wy gx gy
  rcases hsh x o ex with ⟨ex1, ex2⟩ | ⟨hxn, hxK, ex'⟩
  ·subst ex1 ex2
   rcases hsh y o' ey with ⟨ey1, ey2⟩ | ⟨hyn, hyK, ey'⟩
   ·exact ey1.symm
   ·exfalso
    have gy := haso hyn gy
    rcases hasn gx with q | ⟨k, ok, hk1, e, w, g⟩
    ·exact q.1.2.2 _ _ ey' wy gy
    ·have := R.eN e ey' w wy g gy; subst this; exact hyK hk1
  ·rcases hsh y o' ey with ⟨ey1, ey2⟩ | ⟨hyn, hyK, ey'⟩
   ·subst ey1 ey2
    exfalso
    have gx := haso hxn gx
    rcases hasn gy with q | ⟨k, ok, hk1, e, w, g⟩
    ·exact q.1.2.2 _ _ ex' wx gx
    ·have := R.eN e ex' w wx g gx; subst this; exact hxK hk1
   ·exact R.eN ex' ey' wx wy (haso hxn gx) (haso hyn gy)
 ·intro x o a ex wx gx
  rcases hsh x o ex with ⟨ex1, ex2⟩ | ⟨hxn, hxK, ex'⟩
  ·subst ex1 ex2
   rcases hasn gx with q | ⟨k, ok, hk1, e, w, g⟩
   ·exact ⟨q.1.1, q.1.2.1, q.2⟩
   ·obtain ⟨q1, q2, q3⟩ := R.hasB e w g
    exact ⟨q1, q2, by omega⟩
  ·obtain ⟨q1, q2, q3⟩ := R.hasB ex' wx (haso hxn gx)
   exact ⟨q1, q2, by omega⟩
 ·intro x o ex tx
  rcases hsh x o ex with ⟨ex1, ex2⟩ | ⟨hxn, hxK, ex'⟩
  ·subst ex1 ex2
   obtain ⟨g1, g2⟩ := hG tx
   refine ⟨by show (if sh.next = sh.next then G else _).Nodup; simpa using g1, fun l' a n l1 => ?_⟩
   have n : (if sh.next = sh.next then some l else H.ν sh.next) = some l' := n
   simp at n; subst n
   show a ∉ (if sh.next = sh.next then G else _)
   simpa using g2 a l1
  ·have := R.ks ex' tx
   refine ⟨by show (if x = sh.next then G else _).Nodup; rw [if_neg hxn]; exact this.1, fun l' a n l1 => ?_⟩
   have n : (if x = sh.next then some l else H.ν x) = some l' := n
   rw [if_neg hxn] at n
   show a ∉ (if x = sh.next then G else _)
   rw [if_neg hxn]; exact this.2 _ _ n l1
theorem HR.make (R : HR P h0 h H ρ sh) {o1 : b5} {l : Loc} {acs : List AV} {G : List Nat} {K : Nat -> Prop} (hn : h.next <= h'.next) (hsh : ∀ x o, sh'.get x = some o -> (x = sh.next /\ o = o1) \/ (x ≠ sh.next /\ ¬ K x /\ sh.get x = some o)) (hnx : sh'.next = sh.next + 1) (hats : sh'.iz = sh.iz) (ho1 : own o1 = true)
  (hk : ∀ c, c < h.next -> h'.get c = h.get c \/ ∃ k ok, K k /\ sh.get k = some ok /\ own ok = true /\ Has H ok k c) (hnone : ∀ c, h'.next <= c -> h'.get c = none)
  (hhas : ∀ a, (l.at = some a \/ (bf o1 = true /\ a ∈ G)) -> (tQ h0 H sh a /\ a < h'.next) \/ ∃ k ok, K k /\ sh.get k = some ok /\ own ok = true /\ Has H ok k a)
  (hG : bf o1 = true -> G.Nodup /\ ∀ a, l.at = some a -> a ∉ G)
  (ho : ∀ H', aM h H h' H' -> H'.ν sh.next = some l -> H'.κb sh.next sh.next = acs -> H'.fp sh.next = G -> H'.S = H.S -> db P h' H' ρ sh.next o1) :
  ∃ H', aM h H h' H' /\ HR P h0 h' H' ρ sh' /\ aS h0 H H' /\ H'.ν sh.next = some l := by
 obtain ⟨H', a, b, c, d, _⟩ := R.make' (acs := acs) (G := G) (K := K) hn hsh hnx hats ho1 hk hnone hhas hG ho
 exact ⟨H', a, b, c, d⟩
theorem HR.DW (R : HR P h0 h H ρ sh) {b a : Nat} {ob o1 : b5} {l : Loc} {oc : fO} (hg : sh.get b = some ob) (ht : bf ob = true) (ht1 : bf o1 = true) (hn : H.ν b = some l) (hl : l.at = some a)
  (ho : aM h H (h.set a oc) H -> db P (h.set a oc) H ρ b o1) : aM h H (h.set a oc) H /\ HR P h0 (h.set a oc) H ρ (sh.set b o1) := by
 have hw := bM ht
 obtain ⟨q1, q2, q3⟩ := R.hasB hg hw (.inl ⟨l, hn, hl⟩)
 have hx : aM h H (h.set a oc) H := ⟨fun _ _ e => e, fun _ _ _ e => e, fun _ _ _ _ e => e, fun c hc => ⟨hc, fun _ e => by rw [ah.aP, if_neg (fun q => by subst q; exact q1 hc)]; exact e⟩⟩
 have hget : ∀ {x : Nat} {o : b5}, (sh.set b o1).get x = some o -> (x = b /\ o = o1) \/ (x ≠ b /\ sh.get x = some o) := by
  intro x o e
  rw [ae.aP] at e
  split at e
  ·rename_i hxb; cases e; exact .inl ⟨hxb, rfl⟩
  ·rename_i hxb; exact .inr ⟨hxb, e⟩
 have hasb : ∀ {x : Nat}, Has H o1 b x -> Has H ob b x := by
  rintro x (q | ⟨_, m⟩)
  ·exact .inl q
  ·exact .inr ⟨ht, m⟩
 have src : ∀ {x : Nat} {o : b5}, (sh.set b o1).get x = some o -> own o = true -> ∃ o0, sh.get x = some o0 /\ own o0 = true /\ ∀ c, Has H o x c -> Has H o0 x c := by
  intro x o e w
  rcases hget e with ⟨rfl, rfl⟩ | ⟨_, e⟩
  ·exact ⟨_, hg, hw, fun _ => hasb⟩
  ·exact ⟨_, e, w, fun _ g => g⟩
 refine ⟨hx, ?_⟩
 refine HR.build ?_ R.fN R.next ?_ R.cR R.cV R.ka R.kb ?_ ?_ ?_ ?_ ?_
 ·intro x o ex
  rcases hget ex with ⟨rfl, rfl⟩ | ⟨hxb, ex⟩
  ·exact ho hx
  ·by_cases w : own o = true
   ·have ne : ∀ {c : Nat}, Has H o x c -> c ≠ a := fun g q => by subst q; exact hxb (R.eN ex hg w hw g (.inl ⟨l, hn, hl⟩))
    exact db.mono hx (fun t => ⟨rfl, fun c hc ob g => by rw [ah.aP, if_neg (ne (.inr ⟨t, hc⟩))]; exact g⟩) (fun l' c n1 l1 ob g => by rw [ah.aP, if_neg (ne (.inl ⟨l', n1, l1⟩))]; exact g) (fun _ _ _ _ => rfl) (fun _ _ => rfl) (R.bj _ _ ex)
   ·have ho' := R.bj _ _ ex
    cases ho' with
    | ic q1 q2 q3 q4 q5 => exact .ic q1 q2 q3 q4 q5
    | dK q1 q2 q3 q4 q5 => exact .dK q1 q2 (q3.mono hx ((hx.kept _ q4).2 _ q3.get)) q4 q5
    | _ => exact absurd rfl w
 ·intro c hc
  rw [ah.aP, if_neg (by omega)]; exact R.cJ c hc
 ·intro c hc
  have hc : h.next <= c := hc
  rw [ah.aP, if_neg (by omega)]; exact R.none_ c hc
 ·intro x o ex
  show x < sh.next
  rcases hget ex with ⟨rfl, rfl⟩ | ⟨hxb, ex⟩
  ·exact R.b4 _ _ hg
  ·exact R.b4 _ _ ex
 ·intro x y o o' c ex ey wx wy gx gy
  obtain ⟨o0, e0, w0, k0⟩ := src ex wx
  obtain ⟨o0', e0', w0', k0'⟩ := src ey wy
  exact R.eN e0 e0' w0 w0' (k0 _ gx) (k0' _ gy)
 ·intro x o c ex wx gx
  obtain ⟨o0, e0, w0, k0⟩ := src ex wx
  exact R.hasB e0 w0 (k0 _ gx)
 ·intro x o ex tx
  rcases hget ex with ⟨rfl, rfl⟩ | ⟨_, ex⟩
  ·exact R.ks hg ht
  ·exact R.ks ex tx
theorem SD.ya {c : Nat} {w : AV} (g : SD P h H ρ (.view c) w) : mj H c w := by
 cases g with
 | cu q => exact .inl ⟨q, rfl⟩
 | view q => exact .inr ⟨_, _, _, q, rfl⟩
theorem tC (R : HR P h0 h H ρ sh) {t : TypeId} {a v : SV} {u w : AV} {l : List E} (ga : SD P h H ρ a u) (gv : SD P h H ρ v w) (e : jM P sh t a v = some (sh', l)) (hl : bo ρ l) :
  ∃ h' H', gA P h t u w = some h' /\ aM h H h' H' /\ HR P h0 h' H' ρ sh' /\ aS h0 H H' := by
 unfold jM at e
 split at e
 case h_2 => cases e
 rename_i b i off
 split at e
 case h_3 => cases e
 case h_2 =>
  rename_i et et2 e0 i' c0 hg
  obtain ⟨hc, e2⟩ := aj e
  clear e
  simp only [Bool.and_eq_true, decide_eq_true_eq] at hc
  obtain ⟨⟨rfl, h2⟩, h3⟩ := hc
  have h2 := aq h2
  have h3 := aq h3
  subst h2; subst h3
  split at e2
  case h_2 => cases e2
  rename_i c
  split at e2
  case h_2 => cases e2
  cases e2
  have ho := R.bj _ _ hg
  cases ho with
  | dW q1 q2 q3 q4 q5 q6 q7 q8 q9 q10 =>
   rename_i m a0 len ls acs
   cases ga with
   | bI q =>
    rw [q2] at q; cases q
    obtain ⟨av, k1, k2⟩ := q9
    have hh := gv.ya
    have hplt := (List.getElem?_eq_some_iff.1 k1).1
    have hwc : w.cells = [w] := by rcases hh with ⟨_, rfl⟩ | ⟨_, _, _, _, rfl⟩ <;> rfl
    have hw1 : w.one = true := by rcases hh with ⟨_, rfl⟩ | ⟨_, _, _, _, rfl⟩ <;> rfl
    obtain ⟨x2, R2⟩ := R.gH (o := .dW et et2 e0 i c) (ob := .cells (aB acs m [w])) (acs := []) (sh' := sh.set b (.dW et et2 e0 i c)) hg rfl rfl q2 rfl rfl rfl (.inl ⟨rfl, rfl⟩)
     (fun x' => .dW (l := ls) (m := m) (acs := aB acs m [w]) q1 (x'.nu _ _ q2) q3 q4 q5 (by rw [ah.aP]; simp) q7 q8 ⟨w, by rw [bS hplt]; simp [hplt], hh.mono x'⟩
      (by rw [show (aB acs m [w]).set m .aV = acs.set m .aV from by rw [bS hplt, List.set_set]]; exact q10.imp fun _ _ p => p.mono x'.kept))
    refine ⟨_, _, ?_, x2, R2, fun a ha => .inl ha⟩
    simp only [gA, q7, q6, q3, Int.ofNat_eq_natCast, Int.toNat_natCast, Nat.mul_one, Nat.add_zero]
    have h1 : (Nat.beq w.cells.length 1 && Nat.ble (m + 1) acs.length && w.cells.all AV.one) = true := by
     rw [hwc]
     simp only [Bool.and_eq_true, List.all_cons, List.all_nil, Bool.and_true, hw1, Nat.ble_eq, and_true]
     exact ⟨rfl, hplt⟩
    rw [h1, cond_true, hwc]
 rename_i et e0 hole hg
 split at e
 case h_2 => cases e
 rename_i j hj
 have ho := R.bj _ _ hg
 split at e
 ·-- a flat part
  cases hsl : bA P deep t with
  | true => rw [hsl] at e; cases e
  | false =>
   rw [hsl] at e
   simp only [cond_false] at e
   split at e
   case h_2 => cases e
   rename_i s hs
   obtain ⟨hc, e⟩ := aj e
   simp only [Bool.and_eq_true] at hc
   obtain ⟨⟨c1, c2⟩, c3⟩ := hc
   split at e
   case h_2 => cases e
   rename_i x hx
   cases e
   have hi := ew.1 hl
   rw [len'_i] at hi
   cases ho with
   | eH q1 _ _ _ _ => rw [q1] at hi; simp [V.len, V.bx] at hi; omega
   | tree q1 q2 q3 q4 =>
    rename_i a0 len sz ls acs
    rw [q1] at hi
    obtain ⟨m, hm1, hm2, hm3⟩ := dO hi.1 hi.2
    have hm : m < ls.length := hm2
    cases ga with
    | bI q5 =>
     rw [q2] at q5; cases q5
     have hb : v ≠ .bad := by intro q; subst q; simp [SV.cells, SV.one] at c3
     have vc := gv.cells' hb
     obtain ⟨cv, rv, w1, w2⟩ := fU R hx vc
     have lv := w2.length
     rw [hs] at lv
     have lc := vc.length
     have hcl := aq c1
     have hrv : rv = [] := by
      rw [w1] at lc
      simp at lc lv
      exact List.length_eq_zero_iff.1 (by omega)
     subst hrv
     rw [List.append_nil] at w1
     obtain ⟨d, cc, r, F1, G, F2, d1, d2, y1, y2, y3, y4, _, _, y7⟩ := dA hj q4 hm
     have := y4.kL hsl
     subst this
     have l4 := y4.length
     rw [hs] at l4
     have hrl := q4.length
     have hmle : (m + 1) * sz <= ls.length * sz := Nat.mul_le_mul_right _ hm
     rw [Nat.succ_mul] at hmle
     have hsame : gD h (h.set a0 (.cells (aB acs (m * sz + off) cv))) (F1 ++ F2) := by
      intro c hc ob g
      rw [ah.aP, if_neg (fun q => by subst q; exact (R.ks hg rfl).2 _ _ q2 rfl (by rw [y3]; simp at hc ⊢; exact hc))]; exact g
     have row := y7 (y := x.v ρ) (c' := cv) (G' := []) hsame ((w2.A9 hsl).le (by omega) |>.frame (h' := h.set a0 (.cells (aB acs (m * sz + off) cv))) (by intro a ha; simp at ha))
     obtain ⟨x2, R2⟩ := R.DW (o1 := .tree et (.set e0 i (dF (e0.get' i) x j)) none) (oc := .cells (aB acs (m * sz + off) cv)) hg rfl rfl q2 rfl
      (fun x' => .tree (acs := aB acs (m * sz + off) cv) (l := ls.set m (((V.list ls).get (Int.ofNat m)).put (x.v ρ) j)) (by simp only [E.v, jR, get'_v, q1, hm1, V.set, V.bx, Int.ofNat_eq_natCast, Int.toNat_natCast]) q2 ⟨q3.size, q3.pos, by rw [q3.len]; simp, by rw [ah.aP]; simp⟩ (by rw [y3]; exact row))
     refine ⟨_, _, ?_, x2, R2, fun a ha => .inl ha⟩
     have wl : w.cells.length = s := by rw [w1]; simpa using lv.symm
     have h1 : (Nat.beq w.cells.length s && Nat.ble (m * sz + off + s) acs.length && w.cells.all AV.one) = true := by
      simp only [Bool.and_eq_true]
      refine ⟨⟨by rw [wl]; simp, ?_⟩, ?_⟩
      ·rw [Nat.ble_eq]
       have : cc.length = s := by simpa using l4.symm
       omega
      ·rw [List.all_eq_true, w1]; exact w2.cell
     simp only [gA, hm3, q3.get, hs]
     rw [h1, cond_true, w1]
 ·-- into a hole
  rename_i i' off' st c0
  obtain ⟨hc, e2⟩ := aj e
  clear e
  simp only [Bool.and_eq_true, decide_eq_true_eq] at hc
  obtain ⟨⟨rfl, h2⟩, h3⟩ := hc
  have h2 := aq h2
  have h3 := aq h3
  subst h2; subst h3
  have main : ∀ {c : Nat} {sh1 : ae} {H1 : Hid}, aM h H h H1 -> HR P h0 h H1 ρ sh1 -> sh1.get b = some (.tree et e0 (some (i, off, st, c0))) -> mj H1 c w -> aA P st = some 1 -> bB P st = some false -> bo ρ (mC i e0.len') ->
    ∃ h', gA P h st u w = some h' /\ aM h H h' H1 /\ HR P h0 h' H1 ρ (sh1.set b (.tree et e0 (some (i, off, st, c)))) := by
   intro c sh1 H1 hx1 R1 hg1 hh hs1 hag hl
   have ho := R1.bj _ _ hg1
   cases ho with
   | jf q1 q2 q3 q4 q5 =>
    rename_i m j' a0 len sz ls acs
    have ga1 := ga.mono hx1
    cases ga1 with
    | bI q6 =>
     rw [q2] at q6; cases q6
     obtain ⟨av, k1, k2⟩ := q4.ya
     have hplt := (List.getElem?_eq_some_iff.1 k1).1
     have hwc : w.cells = [w] := by rcases hh with ⟨_, rfl⟩ | ⟨_, _, _, _, rfl⟩ <;> rfl
     have hw1 : w.one = true := by rcases hh with ⟨_, rfl⟩ | ⟨_, _, _, _, rfl⟩ <;> rfl
     obtain ⟨x2, R2⟩ := R1.DW (o1 := .tree et e0 (some (i, off, st, c))) (oc := .cells (aB acs (m * sz + off) [w])) hg1 rfl rfl q2 rfl
      (fun x' => .jf (m := m) (j := j') (acs := aB acs (m * sz + off) [w]) q1 q2 ⟨q3.size, q3.pos, q3.len, by rw [ah.aP]; simp⟩ ⟨q4.ix, q4.lt, q4.part, w, by rw [bS hplt]; simp [hplt], hh⟩
       (by
        rw [tF hplt]
        refine q5.imp fun _ _ K hK q => q.frame fun c hc ob g => ?_
        rw [ah.aP, if_neg (fun q => by subst q; exact (R1.ks hg1 rfl).2 _ _ q2 rfl (hK _ hc))]; exact g))
     refine ⟨_, ?_, hx1.trans x2, R2⟩
     simp only [gA, q4.ix, q3.get, hs1, Int.ofNat_eq_natCast, Int.toNat_natCast]
     have h1 : (Nat.beq w.cells.length 1 && Nat.ble (m * sz + off + 1) acs.length && w.cells.all AV.one) = true := by
      rw [hwc]
      simp only [Bool.and_eq_true, List.all_cons, List.all_nil, Bool.and_true, hw1, Nat.ble_eq, and_true]
      exact ⟨rfl, hplt⟩
     rw [h1, cond_true, hwc]
  split at e2
  ·-- a slice of our own
   rename_i c et' hu hs1
   cases e2
   obtain ⟨h', k1, k2, k3⟩ := main (aM.refl _ _) R hg gv.ya hs1 (by simp [bB, hu]) hl
   exact ⟨h', H, k1, k2, k3, fun a ha => .inl ha⟩
  ·-- nil
   rename_i et' hu hs1
   split at e2
   ·rename_i n hz
    cases e2
    cases gv
    have hb := R.b4 _ _ hg
    obtain ⟨H1, x1, R1, s1, n1⟩ := R.make (h' := h) (sh' := sh.new (bh P et' .nil sh.next)) (o1 := bh P et' .nil sh.next) (l := .nil) (acs := []) (G := []) (K := fun _ => False) (Nat.le_refl _)
     (fun x o ex => by
      rw [ae.aQ] at ex
      split at ex
      ·rename_i q; cases ex; exact .inl ⟨q, rfl⟩
      ·rename_i q; exact .inr ⟨q, id, ex⟩) rfl rfl (by unfold bh; cases bA P deep et' <;> rfl) (fun c _ => .inl rfl) R.none_
     (fun a q => by rcases q with q | ⟨_, q⟩; cases q; simp at q) (fun _ => ⟨List.nodup_nil, by simp⟩)
     (fun H' x n k f s => by
      unfold bh
      cases bA P deep et' with
      | true => exact .eH rfl n hz (by omega) f
      | false => exact .iA rfl n hz (by omega))
    have hg1 : (sh.new (bh P et' .nil sh.next)).get b = some (.tree et e0 (some (i, off, st, c0))) := by rw [ae.aQ, if_neg (by omega)]; exact hg
    obtain ⟨h', k1, k2, k3⟩ := main x1 R1 hg1 (.inl ⟨n1, rfl⟩) hs1 (by simp [bB, hu]) hl
    exact ⟨h', H1, k1, k2, k3, s1⟩
   ·cases e2
  ·cases e2
end
end Go.Sym
namespace Go.Sym
open Go Go.a9
section
variable {P : Program} {h h' : ah} {H H' : Hid} {ρ : Env} {h0 : ah} {sh sh' : ae}
noncomputable def gZ (H : Hid) (sh : ae) (k : Nat) : List Nat :=
 match H.ν k with
 | some (.nN a _ _) => a :: (match sh.get k with | some (.tree ..) => H.fp k | _ => [])
 | _ => []
theorem iE {k a : Nat} {ok : b5} (e : sh.get k = some ok) (g : a ∈ gZ H sh k) : Has H ok k a := by
 unfold gZ at g
 split at g
 ·rename_i b len sz hn
  rcases List.mem_cons.1 g with rfl | g
  ·exact .inl ⟨_, hn, rfl⟩
  ·split at g
   ·rename_i hg
    rw [e] at hg; cases hg
    exact .inr ⟨rfl, g⟩
   ·simp at g
 ·simp at g
theorem xN (R : HR P h0 h H ρ sh) {k : Nat} {ok : b5} (e : sh.get k = some ok) : (gZ H sh k).Nodup := by
 unfold gZ
 split
 ·rename_i b len sz hn
  split
  ·rename_i hg
   obtain ⟨n1, n2⟩ := R.ks hg rfl
   exact List.nodup_cons.2 ⟨n2 _ _ hn rfl, n1⟩
  ·simp
 ·simp
theorem wo (R : HR P h0 h H ρ sh) {c : Nat} {t : TypeId} {e : E} (k : kd P sh c = some (t, e)) : ∃ o sz av, sh.get c = some o /\ own o = true /\ aA P t = some sz /\ 0 < sz /\ mj H c av /\ Cw h sz (OV P h deep t) (e.v ρ) av (gZ H sh c) := by
 unfold kd at k
 split at k
 ·rename_i t' e' ib hg
  have ho := R.bj _ _ hg
  cases hs : bA P deep t' with
  | true => rw [hs] at k; cases k
  | false =>
   rw [hs] at k
   simp only [cond_false, Option.some.injEq, Prod.mk.injEq] at k
   obtain ⟨rfl, rfl⟩ := k
   cases ho with
   | iA q1 q2 q3 q4 => exact ⟨_, _, .aV, hg, rfl, q3, q4, .inl ⟨q2, rfl⟩, .inl ⟨q1, rfl, by simp [gZ, q2]⟩⟩
   | arr q1 q2 q3 q4 =>
    rename_i a len sz l acs
    exact ⟨_, sz, .slice a 0 len sz, hg, rfl, q3.size, q3.pos, .inr ⟨_, _, _, q2, rfl⟩, .inr ⟨l, a, acs, [], q1, by rw [q3.len], by simp [gZ, q2, hg], q3.get, q3.row.A9 fun _ _ q => q.A9 hs⟩⟩
 ·rename_i t' e' hg
  cases k
  have ho := R.bj _ _ hg
  cases ho with
  | eH q1 q2 q3 q4 q5 => exact ⟨_, _, .aV, hg, rfl, q3, q4, .inl ⟨q2, rfl⟩, .inl ⟨q1, rfl, by simp [gZ, q2]⟩⟩
  | tree q1 q2 q3 q4 =>
   rename_i a len sz l acs
   exact ⟨_, sz, .slice a 0 len sz, hg, rfl, q3.size, q3.pos, .inr ⟨_, _, _, q2, rfl⟩, .inr ⟨l, a, acs, H.fp c, q1, by rw [q3.len], by simp [gZ, q2, hg], q3.get, q4⟩⟩
 ·cases k
def m7 (sh : ae) (bs : List Nat) : Prop := ∀ k ∈ bs, ∃ ok, sh.get k = some ok /\ own ok = true
theorem m7.append {a b : List Nat} (x : m7 sh a) (y : m7 sh b) : m7 sh (a ++ b) := fun k hk => (List.mem_append.1 hk).elim (x k) (y k)
theorem hZ : ∀ {l : List Nat}, cz l = true -> l.Nodup
 | [], _ => List.nodup_nil
 | x :: xs, e => by
  simp only [cz, Bool.and_eq_true, Bool.not_eq_true'] at e
  refine List.nodup_cons.2 ⟨fun q => ?_, hZ e.2⟩
  have := e.1
  simp at this
  exact this q
theorem nM (R : HR P h0 h H ρ sh) : ∀ {bs : List Nat}, bs.Nodup -> m7 sh bs -> (bs.flatMap (gZ H sh)).Nodup
 | [], _, _ => by simp
 | k :: bs, hn, ho => by
  obtain ⟨n1, n2⟩ := List.nodup_cons.1 hn
  obtain ⟨ok, e, w⟩ := ho k (by simp)
  rw [List.flatMap_cons, List.nodup_append]
  refine ⟨xN R e, nM R n2 fun x hx => ho x (by simp [hx]), fun a ha b hb q => ?_⟩
  subst q
  obtain ⟨x, hx, hxb⟩ := List.mem_flatMap.1 hb
  obtain ⟨ox, ex, wx⟩ := ho x (by simp [hx])
  have := R.eN e ex w wx (iE e ha) (iE ex hxb)
  subst this
  exact n1 hx
theorem kk (R : HR P h0 h H ρ sh) : ∀ {d : Nat} {t : TypeId} {svs : List SV} {cs : List AV} {e : E} {bs : List Nat}, kl P sh d t svs = some (e, bs) -> cB P h H ρ svs cs -> ∃ c r, cs = c ++ r /\ OV P h d t (e.v ρ) c (bs.flatMap (gZ H sh)) /\ m7 sh bs := by
 intro d
 induction d with
 | zero => intro t svs cs e bs k; exact (Option.some_ne_none _ (k.symm.trans rfl)).elim
 | succ d ih =>
  intro t svs cs e bs k g
  unfold kl at k
  cases hsl : bA P deep t with
  | false =>
   rw [hsl] at k
   simp only [cond_false, Option.map_eq_some_iff, Prod.mk.injEq] at k
   obtain ⟨e', k1, rfl, rfl⟩ := k
   obtain ⟨c, r, w1, w2⟩ := fU R k1 g
   exact ⟨c, r, w1, by simpa using w2.A9 hsl, fun k hk => by simp at hk⟩
  | true =>
   rw [hsl] at k
   simp only [cond_true] at k
   split at k
   ·cases k
   ·rename_i n hn
    split at k
    ·rename_i et hu
     obtain ⟨hc, k2⟩ := aj k
     clear k
     simp only [Bool.and_eq_true] at hc
     have h1 := aq hc.1
     subst h1
     split at k2
     ·rename_i z hz
      split at k2
      ·cases k2
       cases g with | cons g1 g2 =>
       cases g1
       refine ⟨[_], _, rfl, ⟨hn, ?_⟩, fun k hk => by simp at hk⟩
       rw [hu]
       exact ⟨_, z + 1, rfl, hz, by omega, .inl ⟨rfl, rfl, rfl⟩⟩
      ·rename_i b tl
       split at k2
       ·rename_i t' e' hw
        obtain ⟨ht, k3⟩ := aj k2
        clear k2
        have ht := aq ht
        subst ht
        cases k3
        cases g with | cons g1 g2 =>
        obtain ⟨ob, sz, av, e1, e2, e3, e4, e5, e6⟩ := wo R hw
        have := g1.ya.unique e5
        subst this
        refine ⟨[_], _, rfl, ⟨hn, ?_⟩, fun k hk => by simp at hk; subst hk; exact ⟨_, e1, e2⟩⟩
        rw [hu]
        exact ⟨_, sz, rfl, e3, e4, by simpa using e6.imp (fun _ _ _ _ q => OV.fin hc.2 q) (gD.refl _ _)⟩
       ·cases k2
      ·cases k2
     ·cases k2
    ·rename_i fields hu
     obtain ⟨hc, k⟩ := aj k
     simp only [Bool.and_eq_true, decide_eq_true_eq] at hc
     obtain ⟨ht, hlen⟩ := hc
     have key : ∀ (fs : List Field) (pos : Nat) (e1 e2 : E) (b1 b2 : List Nat) (l : List V), tight P fs pos = some n -> e1.v ρ = .list l ->
       fs.foldl (fun r f => match r, kl P sh d f.type (svs.drop f.offset) with | some x, some y => some (E.snoc x.1 y.1, x.2 ++ y.2) | _, _ => none) (some (e1, b1)) = some (e2, b2) ->
       ∃ m b3, e2.v ρ = .list (l ++ m) /\ b2 = b1 ++ b3 /\ m7 sh b3 /\ ∃ c r, cs.drop pos = c ++ r /\ pos + c.length = n /\ v9 P (OV P h d) fs pos m c (b3.flatMap (gZ H sh)) := by
      intro fs
      induction fs with
      | nil =>
       intro pos e1 e2 b1 b2 l ht he hf
       simp [tight] at ht
       simp at hf
       obtain ⟨rfl, rfl⟩ := hf
       exact ⟨[], [], by simpa using he, by simp, fun k hk => by simp at hk, [], _, rfl, by simpa using ht, rfl, rfl, rfl⟩
      | cons f fs ihf =>
       intro pos e1 e2 b1 b2 l ht he hf
       unfold tight at ht
       split at ht
       ·rename_i s hs
        obtain ⟨ho, ht⟩ := aj ht
        have ho := aq ho
        rw [List.foldl_cons] at hf
        cases hv : kl P sh d f.type (svs.drop f.offset) with
        | none =>
         rw [hv] at hf
         exfalso
         have : ∀ (gs : List Field), gs.foldl (fun r f => match r, kl P sh d f.type (svs.drop f.offset) with | some x, some y => some (E.snoc x.1 y.1, x.2 ++ y.2) | _, _ => none) none = (none : Option (E × List Nat)) := by
          intro gs; induction gs with
          | nil => rfl
          | cons g gs ih => rw [List.foldl_cons]; exact ih
         simp only at hf
         rw [this] at hf
         cases hf
        | some y =>
         obtain ⟨ye, yb⟩ := y
         rw [hv] at hf
         simp only at hf
         obtain ⟨c, r, w1, w2, w3⟩ := ih hv (g.drop f.offset)
         have hl := w2.length
         rw [hs] at hl
         cases hl
         obtain ⟨m, b3, m1, mb, mo, c', r', m2, m3, m4⟩ := ihf (pos + c.length) (.snoc e1 ye) e2 (b1 ++ yb) b2 _ ht (vd he) hf
         refine ⟨ye.v ρ :: m, yb ++ b3, by rw [m1]; simp, by rw [mb]; simp, w3.append mo, c ++ c', r', ?_, by simp; omega, ⟨_, _, c, c', _, _, rfl, rfl, by rw [List.flatMap_append], ho, w2, m4⟩⟩
         rw [<- ho] at m2 ⊢
         rw [<- List.drop_drop, w1, List.drop_left' rfl] at m2
         rw [w1, m2, List.append_assoc]
       ·cases ht
     obtain ⟨m, b3, m1, mb, mo, c, r, m2, m3, m4⟩ := key _ _ _ _ _ _ [] ht rfl k
     simp only [List.nil_append] at mb
     subst mb
     refine ⟨c, r, by simpa using m2, ⟨by rw [hn, <- m3]; simp, ?_⟩, mo⟩
     rw [hu]
     exact ⟨m, by simpa using m1, m4⟩
    ·cases k
theorem sA (R : HR P h0 h H ρ sh) {et : TypeId} {s : Nat} (hs : aA P et = some s) {z : List AV} (hz : z.length = s) : ∀ {ps : List (Nat × SV)} {qs : List (Nat × AV)} {j : Nat} {l : List E} {bs : List Nat} {pre : List AV}, gF P h H ρ ps qs -> sB P sh et s j ps = some (l, bs) -> pre.length = j * s ->
  l.length = ps.length /\ m7 sh bs /\ ∃ cs, eP (fun i => some (i * s, s)) (pre ++ dE z ps.length) qs = some (pre ++ cs) /\ di s (OV P h deep et) (l.map (E.v ρ)) cs (bs.flatMap (gZ H sh))
 | [], _, j, l, bs, pre, .nil, e, hp => by
  simp [sB] at e; obtain ⟨rfl, rfl⟩ := e
  exact ⟨rfl, fun k hk => by simp at hk, [], by simp [eP, dE], rfl, rfl⟩
 | (i, v) :: ps, _, j, l, bs, pre, .cons (u := u) (us := us) g1 g2, e, hp => by
  unfold sB at e
  split at e
  ·cases e
  ·rename_i hv
   have hv' : v ≠ .bad := fun q => hv q
   obtain ⟨hc, e⟩ := aj e
   simp only [Bool.and_eq_true] at hc
   have hi := aq hc.1
   have hlen := aq hc.2
   subst hi
   split at e
   ·rename_i e1 l1 h1 h2
    obtain ⟨e1, be1⟩ := e1
    obtain ⟨l1, bl1⟩ := l1
    cases e
    have c1 := g1.cells' hv'
    obtain ⟨c, r, w1, w2, w3⟩ := kk R h1 c1
    have lc := w2.length
    rw [hs] at lc; cases lc
    have hr : r = [] := by
     have := c1.length
     rw [w1] at this
     simp at this
     exact List.length_eq_zero_iff.1 (by omega)
    subst hr
    rw [List.append_nil] at w1
    have hu := g1.vx hv'
    obtain ⟨k0, ko, cs, k1, k2⟩ := sA R hs hz (pre := pre ++ c) g2 h2 (by simp [hp, Nat.succ_mul])
    refine ⟨by simp [k0], w3.append ko, c ++ cs, ?_, ⟨c, cs, _, _, rfl, by rw [List.flatMap_append], rfl, w2, k2⟩⟩
    have hsp : aB (pre ++ dE z ((i, v) :: ps).length) (i * c.length) u.cells = pre ++ c ++ dE z ps.length := by
     unfold aB
     rw [w1, <- hp, List.take_left' rfl, <- List.drop_drop, List.drop_left' rfl]
     simp only [List.length_cons, dE]
     rw [<- hz, List.drop_left' rfl]
    have hfit : (Nat.beq u.cells.length c.length && Nat.ble (i * c.length + u.cells.length) (pre ++ dE z ((i, v) :: ps).length).length) = true := by
     simp only [Bool.and_eq_true]
     refine ⟨by rw [w1]; simp, ?_⟩
     rw [Nat.ble_eq, w1, List.length_append, dQ, hp, hz]
     simp [Nat.succ_mul]
    unfold eP
    cases u <;> first | exact absurd rfl hu | skip
    all_goals
     simp only
     rw [hfit, cond_true, hsp, k1, List.append_assoc]
   ·cases e
theorem uH : ∀ {l : List Nat} {sh : ae} {x : Nat} {o : b5}, (qy sh l).get x = some o -> x ∉ l /\ sh.get x = some o
 | [], _, _, _, e => ⟨by simp, e⟩
 | k :: l, sh, x, o, e => by
  obtain ⟨h1, h2⟩ := uH (l := l) (sh := sh.kill k) e
  rw [ae.bO] at h2
  split at h2
  ·cases h2
  ·rename_i hx; exact ⟨by simp [hx, h1], h2⟩
theorem sP : ∀ (l : List Nat) (sh : ae), (qy sh l).next = sh.next /\ (qy sh l).iz = sh.iz /\ (qy sh l).nv = sh.nv
 | [], sh => ⟨rfl, rfl, rfl⟩
 | k :: l, sh => sP l (sh.kill k)
theorem OV.cell {d : Nat} {t : TypeId} {x : V} {cs : List AV} {F : List Nat} (g : OV P h d t x cs F) : ∀ a ∈ cs, a.one = true := (g.pv (S := fun _ => True) (by simp)).cell
theorem di.one {d : Nat} {t : TypeId} {sz : Nat} {l : List V} {cs : List AV} {F : List Nat} (g : di sz (OV P h d t) l cs F) : cs.all AV.one = true := by
 rw [List.all_eq_true]
 exact (g.zD (R' := PV P h (fun _ => True) d t) fun _ _ _ _ q => q.pv (by simp)).all fun _ _ q => q.cell
theorem rT (R : HR P h0 h H ρ sh) {x : Tr SV} {y : Tr AV} (g : mZ P h H ρ x y) {hJ : DM} {fn : FuncId} {o : Oper} {v : SV} {l : List E} (e : iI P hJ fn sh x o = some (sh', v, l)) (hl : bo ρ l) :
  ∃ ob u H', bz P h y o = none /\ bH P h.next y o = some (ob, u) /\ aM h H (h.new ob) H' /\ HR P h0 (h.new ob) H' ρ sh' /\ SD P (h.new ob) H' ρ v u /\ aS h0 H H' := by
 obtain ⟨dst, op, type, pos, after, guard⟩ := o
 unfold iI at e
 obtain ⟨hwr, e2⟩ := aj e
 clear hwr e
 simp only at e2
 have hnew : ∀ (ob : fO) (c : Nat), c < h.next -> (h.new ob).get c = h.get c := fun ob c hc => by rw [ah.aQ, if_neg (by omega)]
 have hnone : ∀ (ob : fO) (c : Nat), (h.new ob).next <= c -> (h.new ob).get c = none := fun ob c hc => by
  have hc : h.next + 1 <= c := hc
  rw [ah.aQ, if_neg (by omega)]; exact R.none_ _ (by omega)
 split at e2
 ·rename_i t len parts
  split at e2
  ·rename_i et hu
   split at e2
   ·rename_i s z hs hz
    obtain ⟨hc, e3⟩ := aj e2
    clear e2
    simp only [Bool.and_eq_true] at hc
    obtain ⟨⟨⟨⟨c1, c2⟩, c3⟩, c4⟩, c5⟩ := hc
    split at e3
    ·rename_i es bs hes
     obtain ⟨hd, e4⟩ := aj e3
     clear e3
     cases e4
     obtain ⟨u, z1, z2⟩ := eh (h := h) (H := H) (ρ := ρ) hz
     have hb : z ≠ .bad := by
      intro q; subst q; simp [SV.cells, SV.one] at c5
     have zc := z2.cells' hb
     have zl : u.cells.length = s := by rw [<- zc.length]; exact aq c1
     obtain ⟨k0, ko, cs, k1, k2⟩ := sA R hs zl (pre := []) (kj g parts.toList) hes (by simp)
     have hlen : (List.map (fun p => (p.1, aU x p.2)) parts.toList).length = len := aq c4
     rw [hlen] at k1 k0
     simp only [List.nil_append] at k1
     have cl := k2.length
     rw [List.length_map, k0] at cl
     have nd := nM R (hZ hd) ko
     obtain ⟨p1, p2, p3⟩ := sP bs sh
     obtain ⟨H', x1, R1, s1, n1⟩ := R.make (h' := h.new (.cells cs)) (sh' := (qy sh bs).new (.tree et (qw es) none)) (o1 := .tree et (qw es) none) (l := .nN h.next len s) (acs := cs) (G := bs.flatMap (gZ H sh)) (K := fun k => k ∈ bs) (by show h.next <= h.next + 1; omega)
      (fun x o ex => by
       rw [ae.aQ, p1] at ex
       split at ex
       ·rename_i q; cases ex; exact .inl ⟨q, rfl⟩
       ·rename_i q
        obtain ⟨q1, q2⟩ := uH ex
        exact .inr ⟨q, q1, q2⟩)
      (by show (qy sh bs).next + 1 = _; rw [p1]) (by show (qy sh bs).iz = _; rw [p2]) rfl (fun c hc => .inl (hnew _ c hc)) (hnone _)
      (fun a q => by
       rcases q with q | ⟨_, q⟩
       ·simp only [Loc.at, Option.some.injEq] at q; subst q; exact .inl ⟨R.free (Nat.le_refl _), by show h.next < h.next + 1; omega⟩
       ·obtain ⟨k, hk, hkb⟩ := List.mem_flatMap.1 q
        obtain ⟨ok, e1, w1⟩ := ko k hk
        exact .inr ⟨k, ok, hk, e1, w1, iE e1 hkb⟩)
      (fun _ => ⟨nd, fun a q m => by
       simp only [Loc.at, Option.some.injEq] at q; subst q
       obtain ⟨k, hk, hkb⟩ := List.mem_flatMap.1 m
       obtain ⟨ok, e1, w1⟩ := ko k hk
       have := (R.hasB e1 w1 (iE e1 hkb)).2.2; omega⟩)
      (fun H' x n k f S => .tree (l := es.map (E.v ρ)) (acs := cs) (rB es) n ⟨hs, by simpa [Nat.blt_eq] using c2, by simp [k0], by rw [ah.aQ]; simp⟩
       (by
        rw [f]
        refine k2.imp fun _ _ K hK q => q.frame fun a ha ob gg => ?_
        rw [hnew _ a ?_]; exact gg
        obtain ⟨k, hk, hkb⟩ := List.mem_flatMap.1 (hK a ha)
        obtain ⟨ok, e1, w1⟩ := ko k hk
        exact (R.hasB e1 w1 (iE e1 hkb)).2.2))
     refine ⟨.cells cs, .slice h.next 0 len s, H', rfl, ?_, x1, R1, .view n1, s1⟩
     simp only [bH, hu, hs, z1]
     have e1 : (Nat.beq u.cells.length s && Nat.blt 0 s && Nat.ble (len * s) 16777216 && u.cells.all AV.one) = true := by
      simp only [Bool.and_eq_true]
      exact ⟨⟨⟨by rw [zl]; simp, c2⟩, c3⟩, zc.one c5⟩
     rw [e1, cond_true, k1]
     simp [k2.one]
    ·cases e3
   ·cases e2
  ·cases e2
 ·rename_i t ln cp
  split at e2
  ·rename_i et hu
   split at e2
   ·rename_i i z k1 m k2 n hi hz hm hn
    obtain ⟨hc, e3⟩ := aj e2
    clear e2
    simp only [Bool.and_eq_true, decide_eq_true_eq] at hc
    obtain ⟨⟨⟨⟨c1, c2⟩, c3⟩, c4⟩, c5⟩ := hc
    subst c4
    split at e3
    ·rename_i ze hze
     cases e3
     rw [cA, and'_b, le'_b, le'_b, Bool.and_eq_true, ao, ao] at hl
     obtain ⟨l1, l2⟩ := hl
     change 0 <= m.i ρ at l1
     change m.i ρ <= Int.ofNat (140737488355328 / i.bytes) at l2
     obtain ⟨u, z1, z2⟩ := eh (h := h) (H := H) (ρ := ρ) hz
     have hb : z ≠ .bad := by
      intro q; subst q; simp [SV.cells, SV.one] at c5
     have zc := z2.cells' hb
     obtain ⟨c, r, w1, w2, w3⟩ := kk R hze zc
     have lc := w2.length
     rw [oX hi] at lc
     have hlz : u.cells.length = i.size := by rw [<- zc.length]; exact aq c1
     have hr : r = [] := by
      rw [w1] at hlz
      simp at hlz
      simp at lc
      exact List.length_eq_zero_iff.1 (by omega)
     subst hr
     rw [List.append_nil] at w1
     obtain ⟨N, hN⟩ : ∃ N : Nat, m.i ρ = Int.ofNat N := ⟨(m.i ρ).toNat, by simp; omega⟩
     have hNb : N <= 140737488355328 / i.bytes := by rw [hN] at l2; exact Int.ofNat_le.1 l2
     have hbp : 0 < i.bytes := by simpa [Nat.blt_eq] using c3
     have hmul : N * i.bytes <= 140737488355328 := Nat.le_trans (Nat.mul_le_mul_right _ hNb) (Nat.div_mul_le_self _ _)
     have hNs : N <= 140737488355328 := Nat.le_trans (Nat.le_mul_of_pos_right N hbp) hmul
     have hsz : aA P et = some i.size := oX hi
     have row : di i.size (OV P h deep et) (List.replicate N (ze.v ρ)) (dE u.cells N) [] := by
      rw [w1]; exact di.replicate (by simpa using lc.symm) (by simpa using w2) N
     obtain ⟨H', x1, R1, s1, n1⟩ := R.make (h' := h.new (.cells (dE u.cells N))) (sh' := sh.new (.tree et (.rep m ze) none)) (o1 := .tree et (.rep m ze) none) (l := .nN h.next N i.size) (acs := []) (G := []) (K := fun k => False) (by show h.next <= h.next + 1; omega)
      (fun x o ex => by
       rw [ae.aQ] at ex
       split at ex
       ·rename_i q; cases ex; exact .inl ⟨q, rfl⟩
       ·rename_i q; exact .inr ⟨q, id, ex⟩)
      rfl rfl rfl (fun c hc => .inl (hnew _ c hc)) (hnone _)
      (fun a q => by
       rcases q with q | ⟨_, q⟩
       ·simp only [Loc.at, Option.some.injEq] at q; subst q; exact .inl ⟨R.free (Nat.le_refl _), by show h.next < h.next + 1; omega⟩
       ·simp at q)
      (fun _ => ⟨List.nodup_nil, by simp⟩)
      (fun H' x n k f S => .tree (l := List.replicate N (ze.v ρ)) (acs := dE u.cells N) (by simp [E.v, V.rep, hN]) n ⟨hsz, by simpa [Nat.blt_eq] using c2, by simp, by rw [ah.aQ]; simp⟩
       (by
        rw [f]
        exact row.imp fun _ _ K hK q => q.frame fun a ha ob gg => by have := hK a ha; simp at this))
     refine ⟨.cells (dE u.cells N), .slice h.next 0 N i.size, H', rfl, ?_, x1, R1, .view n1, s1⟩
     have em := cM g ln
     have ec := cM g cp
     rw [hm] at em
     rw [hn] at ec
     have em' : evalOp y ln = .int k1 (.ofNat N) := by
      cases hq : evalOp y ln <;> rw [hq] at em <;> cases em
      rw [hN]
     have ec' : evalOp y cp = .int k2 (.ofNat N) := by
      cases hq : evalOp y cp <;> rw [hq] at ec <;> cases ec
      rw [hN]
     simp only [bH, hu, hi, z1, em', ec']
     have e1 : (Nat.beq u.cells.length i.size && Nat.blt 0 i.size && Nat.beq N N && Nat.ble (N * i.bytes) 140737488355328 && Nat.ble N 4611686018427387904 && u.cells.all AV.one) = true := by
      simp only [Bool.and_eq_true]
      refine ⟨⟨⟨⟨⟨by rw [hlz]; simp, c2⟩, by simp⟩, by rw [Nat.ble_eq]; exact hmul⟩, by rw [Nat.ble_eq]; omega⟩, ?_⟩
      rw [List.all_eq_true, w1]
      exact w2.cell
     rw [e1, cond_true]
    ·cases e3
   ·cases e2
  ·cases e2
 ·cases e2
end
end Go.Sym
namespace Go.Sym
open Go Go.a9
section
variable {P : Program} {h h' : ah} {H H' : Hid} {ρ : Env} {h0 : ah} {sh sh' : ae}
theorem Ag : ∀ (n : Nat) (xs : List AV), n = xs.length -> takeN n xs = some xs := by
 intro n xs
 induction xs generalizing n with
 | nil => intro h; subst h; rfl
 | cons x xs ih => intro h; subst h; simp [takeN, ih _ rfl]
theorem rO (R : HR P h0 h H ρ sh) {c : Nat} {t : TypeId} {e : E} {w : AV} {sz : Nat} (hg : sh.get c = some (.tree t e none)) (gw : SD P h H ρ (.view c) w) (hs : aA P t = some sz) : ∃ m new, elems h sz w = some (m, new) /\ (e.v ρ).bx.length = m /\ di sz (OV P h deep t) (e.v ρ).bx new (H.fp c) /\
  ((m = 0 /\ e.v ρ = .nil /\ w = .aV /\ H.ν c = some .nil) \/ ∃ a, e.v ρ = .list (e.v ρ).bx /\ w = .slice a 0 m sz /\ H.ν c = some (.nN a m sz) /\ h.get a = some (.cells new)) := by
 have ho := R.bj _ _ hg
 cases ho with
 | eH q1 q2 q3 q4 q5 =>
  cases gw with
  | view q => rw [q2] at q; cases q
  | cu _ => exact ⟨0, [], rfl, by rw [q1]; rfl, by rw [q1, q5]; exact ⟨rfl, rfl⟩, .inl ⟨rfl, q1, rfl, q2⟩⟩
 | tree q1 q2 q3 q4 =>
  rename_i a len sz' l acs
  have hz := q3.size
  rw [hs] at hz; cases hz
  have hlen := q3.len
  subst hlen
  cases gw with
  | cu q => rw [q2] at q; cases q
  | view q =>
   rw [q2] at q; cases q
   refine ⟨l.length, acs, ?_, by rw [q1]; rfl, by rw [q1]; exact q4, .inr ⟨a, by rw [q1]; rfl, rfl, q2, q3.get⟩⟩
   simp only [elems, q3.get, beq_self', cond_true, List.drop_zero]
   rw [Ag _ _ q4.length.symm]; rfl
theorem rR (R : HR P h0 h H ρ sh) {st xt : TypeId} {s x v : SV} {u w : AV} {l : List E} (gs : SD P h H ρ s u) (gx : SD P h H ρ x w) (e : iG P sh st xt s x = some (v, sh', l)) (hl : bo ρ l) :
  ∃ r h' H', gR P h st xt u w = some (r, h') /\ aM h H h' H' /\ HR P h0 h' H' ρ sh' /\ SD P h' H' ρ v r /\ aS h0 H H' := by
 unfold iG at e
 split at e
 case h_2 => cases e
 rename_i et xe0 c hst hxt
 split at e
 case h_2 => cases e
 rename_i i z et' ex hi hz hgc
 obtain ⟨hc, e2⟩ := aj e
 clear e
 simp only [Bool.and_eq_true] at hc
 obtain ⟨⟨⟨⟨c1, c2⟩, c3⟩, c4⟩, c5⟩ := hc
 have c5 := aq c5
 subst c5
 have hsz : aA P et' = some i.size := oX hi
 have hpos : 0 < i.size := by simpa [Nat.blt_eq] using c2
 have hbp : 0 < i.bytes := by simpa [Nat.blt_eq] using c3
 obtain ⟨zu, z1, z2⟩ := eh (h := h) (H := H) (ρ := ρ) hz
 have zb : z ≠ .bad := by intro q; subst q; simp [SV.cells, SV.one] at c4
 have zc := z2.cells' zb
 have hguard : (Nat.beq zu.cells.length i.size && Nat.blt 0 i.size && zu.cells.all AV.one) = true := by
  simp only [Bool.and_eq_true]
  exact ⟨⟨by rw [<- zc.length]; exact c1, c2⟩, zc.one c4⟩
 obtain ⟨m, new, n1, n3, n4, n5⟩ := rO R hgc gx hsz
 have n2 := n4.length
 rw [n3] at n2
 have none1 : new.all AV.one = true := n4.one
 have ndc := R.ks hgc rfl
 have app : ∀ (r : AV × ah), da h i.size i.bytes u m new = some r -> gR P h st xt u w = some r := by
  intro r hr
  simp only [gR, hst, hi, z1, hxt]
  rw [hguard, cond_true]
  simp only [appended, n1]
  exact hr
 have lexp : ex.len'.i ρ = m := by rw [len'_i]; show ((ex.v ρ).bx.length : Int) = m; rw [n3]
 have hfpc : m = 0 -> H.fp c = [] /\ new = [] /\ (ex.v ρ).bx = [] := by
  intro h0
  have he : (ex.v ρ).bx = [] := List.length_eq_zero_iff.1 (by omega)
  rw [he] at n4
  exact ⟨n4.2, n4.1, he⟩
 have hcOwn : ∀ a, a ∈ H.fp c -> Has H (.tree et' ex none) c a := fun a ha => .inr ⟨rfl, ha⟩
 split at e2
 ·-- onto nil
  cases e2
  cases gs
  rw [cA, le'_b, ao, lexp] at hl
  have hm : m <= sI i.bytes := Int.ofNat_le.1 hl
  have hv : (E.app' .nil ex).v ρ = if m = 0 then .nil else .list (ex.v ρ).bx := by
   rw [app'_v]
   simp only [E.v, V.app]
   cases hq : (ex.v ρ).bx with
   | nil => rw [hq] at n3; simp at n3; simp [<- n3]
   | cons a b => rw [hq] at n3; simp at n3; rw [if_neg (by omega)]; rfl
  have hsh : ∀ (x : Nat) (o : b5), ((sh.kill c).new (.tree et' (E.app' .nil ex) none)).get x = some o -> (x = sh.next /\ o = .tree et' (E.app' .nil ex) none) \/ (x ≠ sh.next /\ ¬ x = c /\ sh.get x = some o) := by
   intro x o ex'
   rw [ae.aQ] at ex'
   split at ex'
   ·rename_i q; cases ex'; exact .inl ⟨q, rfl⟩
   ·rename_i q
    rw [ae.bO] at ex'
    split at ex'
    ·cases ex'
    ·rename_i q2; exact .inr ⟨q, q2, ex'⟩
  by_cases hm0 : m = 0
  ·obtain ⟨f1, f2, f3⟩ := hfpc hm0
   obtain ⟨H', x1, R1, s1, nn⟩ := R.make (h' := h) (o1 := .tree et' (E.app' .nil ex) none) (l := .nil) (acs := []) (G := []) (K := fun k => k = c) (Nat.le_refl _) hsh rfl rfl rfl (fun c _ => .inl rfl) R.none_
    (fun a q => by rcases q with q | ⟨_, q⟩; cases q; simp at q) (fun _ => ⟨List.nodup_nil, by simp⟩)
    (fun H' x n k f S => .eH (by rw [hv, if_pos hm0]) n hsz hpos f)
   exact ⟨.aV, h, H', app _ (by rw [hm0]; rfl), x1, R1, .cu nn, s1⟩
  ·rw [if_neg hm0] at hv
   obtain ⟨m', rfl⟩ : ∃ k, m = k + 1 := ⟨m - 1, by omega⟩
   obtain ⟨b1, b2⟩ := oq hbp (by omega) hm
   obtain ⟨H', x1, R1, s1, nn⟩ := R.make (h' := h.new (.cells new)) (o1 := .tree et' (E.app' .nil ex) none) (l := .nN h.next (m' + 1) i.size) (acs := []) (G := H.fp c) (K := fun k => k = c) (by show h.next <= h.next + 1; omega) hsh rfl rfl rfl
    (fun c hc => .inl (by rw [ah.aQ, if_neg (by omega)])) (fun c hc => by
     have hc : h.next + 1 <= c := hc
     rw [ah.aQ, if_neg (by omega)]; exact R.none_ _ (by omega))
    (fun a q => by
     rcases q with q | ⟨_, q⟩
     ·simp only [Loc.at, Option.some.injEq] at q; subst q; exact .inl ⟨R.free (Nat.le_refl _), by show h.next < h.next + 1; omega⟩
     ·exact .inr ⟨c, _, rfl, hgc, rfl, hcOwn a q⟩)
    (fun _ => ⟨ndc.1, fun a q hm => by
     simp only [Loc.at, Option.some.injEq] at q; subst q
     have := (R.hasB hgc rfl (hcOwn _ hm)).2.2; omega⟩)
    (fun H' x n k f S => .tree (acs := new) hv n ⟨hsz, hpos, n3.symm, by rw [ah.aQ]; simp⟩ (by
     rw [f]
     exact n4.imp fun _ _ K hK q => q.frame fun a ha ob gg => by
      rw [ah.aQ, if_neg (by have := (R.hasB hgc rfl (hcOwn _ (hK a ha))).2.2; omega)]; exact gg))
   refine ⟨.slice h.next 0 (m' + 1) i.size, _, H', app _ ?_, x1, R1, .view nn, s1⟩
   simp only [da]
   have : (Nat.ble ((2 * (m' + 1) + 1024) * i.bytes) 140737488355328 && Nat.ble (m' + 1) 2305843009213693952 && new.all AV.one) = true := by
    simp only [Bool.and_eq_true, Nat.ble_eq]; exact ⟨⟨b1, b2⟩, none1⟩
   rw [this, cond_true]
 ·-- onto a tree
  rename_i b
  split at e2
  case h_2 => cases e2
  rename_i et2 e0 hgb
  obtain ⟨hcc, e3⟩ := aj e2
  clear e2
  simp only [Bool.and_eq_true, Bool.not_eq_true'] at hcc
  have het := aq hcc.1
  subst het
  have hbc : b ≠ c := by intro q; subst q; simp at hcc
  cases e3
  rw [cA, le'_b, ao, add'_i, lexp] at hl
  obtain ⟨m0, old, o1, o3, o4, o5⟩ := rO R hgb gs hsz
  have ndb := R.ks hgb rfl
  have hbOwn : ∀ a, a ∈ H.fp b -> Has H (.tree et2 e0 none) b a := fun a ha => .inr ⟨rfl, ha⟩
  have dis : ∀ a, a ∈ H.fp b -> a ∈ H.fp c -> False := fun a ha hb => hbc (R.eN hgb hgc rfl rfl (hbOwn a ha) (hcOwn a hb))
  have nd : (H.fp b ++ H.fp c).Nodup := List.nodup_append.2 ⟨ndb.1, ndc.1, fun a ha x hx q => by subst q; exact dis a ha hx⟩
  have le0 : e0.len'.i ρ = m0 := by rw [len'_i]; show ((e0.v ρ).bx.length : Int) = m0; rw [o3]
  rw [le0] at hl
  have hm : m0 + m <= sI i.bytes := Int.ofNat_le.1 hl
  have hsh : ∀ (x : Nat) (o : b5), (((sh.kill c).kill b).new (.tree et2 (E.app' e0 ex) none)).get x = some o -> (x = sh.next /\ o = .tree et2 (E.app' e0 ex) none) \/ (x ≠ sh.next /\ ¬ (x = b \/ x = c) /\ sh.get x = some o) := by
   intro x o ex'
   rw [ae.aQ] at ex'
   split at ex'
   ·rename_i q; cases ex'; exact .inl ⟨q, rfl⟩
   ·rename_i q
    rw [ae.bO] at ex'
    split at ex'
    ·cases ex'
    ·rename_i q2
     rw [ae.bO] at ex'
     split at ex'
     ·cases ex'
     ·rename_i q3; exact .inr ⟨q, fun q => q.elim q2 q3, ex'⟩
  have kin : ∀ a, a ∈ H.fp b ++ H.fp c -> ∃ k ok, (k = b \/ k = c) /\ sh.get k = some ok /\ own ok = true /\ Has H ok k a := by
   intro a ha
   rcases List.mem_append.1 ha with ha | ha
   ·exact ⟨b, _, .inl rfl, hgb, rfl, hbOwn a ha⟩
   ·exact ⟨c, _, .inr rfl, hgc, rfl, hcOwn a ha⟩
  by_cases hm0 : m = 0
  ·-- nothing is appended
   obtain ⟨f1, f2, f3⟩ := hfpc hm0
   have hv : (E.app' e0 ex).v ρ = e0.v ρ := by rw [app'_v]; simp only [V.app]; rw [f3]
   rcases o5 with ⟨p1, p2, p3, p4⟩ | ⟨a, p2, p3, p4, p5⟩
   ·obtain ⟨H', x1, R1, s1, nn⟩ := R.make (h' := h) (o1 := .tree et2 (E.app' e0 ex) none) (l := .nil) (acs := []) (G := []) (K := fun k => k = b \/ k = c) (Nat.le_refl _) hsh rfl rfl rfl (fun c _ => .inl rfl) R.none_
     (fun a q => by rcases q with q | ⟨_, q⟩; cases q; simp at q) (fun _ => ⟨List.nodup_nil, by simp⟩)
     (fun H' x n k f S => .eH (by rw [hv, p2]) n hsz hpos f)
    exact ⟨.aV, h, H', app _ (by rw [hm0, p3]; rfl), x1, R1, .cu nn, s1⟩
   ·obtain ⟨H', x1, R1, s1, nn⟩ := R.make (h' := h) (o1 := .tree et2 (E.app' e0 ex) none) (l := .nN a m0 i.size) (acs := []) (G := H.fp b) (K := fun k => k = b \/ k = c) (Nat.le_refl _) hsh rfl rfl rfl (fun c _ => .inl rfl) R.none_
     (fun a' q => by
      rcases q with q | ⟨_, q⟩
      ·exact .inr ⟨b, _, .inl rfl, hgb, rfl, .inl ⟨_, p4, q⟩⟩
      ·exact .inr ⟨b, _, .inl rfl, hgb, rfl, hbOwn _ q⟩)
     (fun _ => ⟨ndb.1, fun a' q => ndb.2 _ _ p4 q⟩)
     (fun H' x n k f S => .tree (acs := old) (l := (e0.v ρ).bx) (by rw [hv]; exact p2) n ⟨hsz, hpos, o3.symm, p5⟩ (by rw [f]; exact o4))
    refine ⟨u, h, H', app _ ?_, x1, R1, by rw [p3]; exact .view nn, s1⟩
    rw [hm0, p3]
    rw [p3] at o1
    simp only [da, o1]
  ·obtain ⟨m', rfl⟩ : ∃ k, m = k + 1 := ⟨m - 1, by omega⟩
   have hels : (ex.v ρ).bx ≠ [] := by intro q; rw [q] at n3; simp at n3
   have hv : (E.app' e0 ex).v ρ = .list ((e0.v ρ).bx ++ (ex.v ρ).bx) := by
    rw [app'_v]
    unfold V.app
    split
    ·rename_i q; exact absurd q hels
    ·rfl
   obtain ⟨b1, b2⟩ := oq hbp (by omega) hm
   -- the heap behind it
   have goal : ∀ (hk : ah), hk.next = h.next -> (∀ x, x < h.next -> hk.get x = h.get x \/ ∃ l, H.ν b = some l /\ l.at = some x) -> (∀ x, h.next <= x -> hk.get x = none) ->
     ∃ H', aM h H (hk.new (.cells (old ++ new))) H' /\ HR P h0 (hk.new (.cells (old ++ new))) H' ρ (((sh.kill c).kill b).new (.tree et2 (E.app' e0 ex) none)) /\ aS h0 H H' /\ H'.ν sh.next = some (.nN h.next (m0 + (m' + 1)) i.size) := by
    intro hk hn hkk hkn
    have stay : ∀ a, a ∈ H.fp b ++ H.fp c -> ∀ ob, h.get a = some ob -> (hk.new (.cells (old ++ new))).get a = some ob := by
     intro a ha ob g
     obtain ⟨k, ok, _, e1, w1, g1⟩ := kin a ha
     have hlt := (R.hasB e1 w1 g1).2.2
     rw [ah.aQ, if_neg (by omega)]
     rcases hkk a hlt with q | ⟨l, q1, q2⟩
     ·rw [q]; exact g
     ·exfalso
      rcases List.mem_append.1 ha with ha | ha
      ·exact ndb.2 _ _ q1 q2 ha
      ·exact hbc (R.eN hgb hgc rfl rfl (.inl ⟨l, q1, q2⟩) (hcOwn a ha))
    refine R.make (h' := hk.new (.cells (old ++ new))) (o1 := .tree et2 (E.app' e0 ex) none) (l := .nN h.next (m0 + (m' + 1)) i.size) (acs := []) (G := H.fp b ++ H.fp c) (K := fun k => k = b \/ k = c) (by show h.next <= hk.next + 1; omega) hsh rfl rfl rfl
     (fun x hx => by
      rcases hkk x hx with q | q
      ·exact .inl (by rw [ah.aQ, if_neg (by omega)]; exact q)
      ·exact .inr ⟨b, _, .inl rfl, hgb, rfl, .inl q⟩)
     (fun x hx => by
      have hx : hk.next + 1 <= x := hx
      rw [ah.aQ, if_neg (by omega)]; exact hkn _ (by omega))
     (fun a q => by
      rcases q with q | ⟨_, q⟩
      ·simp only [Loc.at, Option.some.injEq] at q; subst q; exact .inl ⟨R.free (Nat.le_refl _), by show h.next < hk.next + 1; omega⟩
      ·exact .inr (kin a q))
     (fun _ => ⟨nd, fun a q hm => by
      simp only [Loc.at, Option.some.injEq] at q; subst q
      obtain ⟨k, ok, _, e1, w1, g1⟩ := kin _ hm
      have := (R.hasB e1 w1 g1).2.2; omega⟩)
     (fun H' x n k f S => .tree (acs := old ++ new) hv n ⟨hsz, hpos, by rw [List.length_append, o3, n3], by rw [ah.aQ, hn]; simp⟩ (by
      rw [f]
      exact (o4.append n4).imp fun _ _ K hK q => q.frame fun a ha ob gg => stay a (hK a ha) ob gg))
   have call : (old ++ new).all AV.one = true := by rw [List.all_append, o4.one, none1]; rfl
   rcases o5 with ⟨p1, p2, p3, p4⟩ | ⟨a, p2, p3, p4, p5⟩
   ·obtain ⟨H', x1, R1, s1, nn⟩ := goal h rfl (fun _ _ => .inl rfl) R.none_
    rw [p2] at o4 o3
    have hold : old = [] := o4.1
    subst p1
    subst hold
    simp only [List.nil_append, Nat.zero_add] at x1 R1 nn
    refine ⟨.slice h.next 0 (m' + 1) i.size, _, H', app _ ?_, x1, R1, .view nn, s1⟩
    rw [p3]
    simp only [da]
    have : (Nat.ble ((2 * (m' + 1) + 1024) * i.bytes) 140737488355328 && Nat.ble (m' + 1) 2305843009213693952 && new.all AV.one) = true := by
     simp only [Bool.and_eq_true, Nat.ble_eq]
     simp only [Nat.zero_add] at b1 b2
     exact ⟨⟨b1, b2⟩, none1⟩
    rw [this, cond_true]
   ·obtain ⟨H', x1, R1, s1, nn⟩ := goal (h.kill a) rfl (fun x _ => by
      by_cases hx : x = a
      ·exact .inr ⟨_, p4, by rw [hx]; rfl⟩
      ·exact .inl (by rw [ah.bO, if_neg hx])) (fun x hx => by
      rw [ah.bO]; split
      ·rfl
      ·exact R.none_ x hx)
    refine ⟨.slice h.next 0 (m0 + (m' + 1)) i.size, _, H', app _ ?_, x1, R1, .view nn, s1⟩
    rw [p3] at o1 ⊢
    simp only [da, o1]
    have : (Nat.ble ((2 * (m0 + (m' + 1)) + 1024) * i.bytes) 140737488355328 && Nat.ble (m0 + (m' + 1)) 2305843009213693952 && new.all AV.one) = true := by
     simp only [Bool.and_eq_true, Nat.ble_eq]; exact ⟨⟨b1, b2⟩, none1⟩
    rw [this, cond_true]
 ·cases e2
end
end Go.Sym
namespace Go.Sym
open Go Go.a9
inductive qM (P : Program) (h : ah) (H : Hid) (ρ : Env) : oQ -> j9 -> Prop
 | value {v : SV} {u : AV} : SD P h H ρ v u -> qM P h H ρ (.value v) (.value u)
 | enter {f : FuncId} {x : List SV} {u : List AV} : cB P h H ρ x u -> qM P h H ρ (.enter f x) (.enter f u)
 | round {l a : Nat} : H.ν l = some (.obj a) -> qM P h H ρ (.round l) (.round a)
 | defer {d : oR} {e : iZ} : zz P h H ρ d e -> qM P h H ρ (.defer d) (.defer e)
 | recover : qM P h H ρ .recover .recover
section
variable {P : Program} {h : ah} {H : Hid} {ρ : Env} {h0 : ah} {sh : ae}
theorem Ao (R : HR P h0 h H ρ sh) {dt : TypeId} {d x v : SV} {u w : AV} {sh' : ae} {l : List E} (gd : SD P h H ρ d u) (gx : SD P h H ρ x w) (e : zN P sh dt d x = some (v, sh', l)) (hl : bo ρ l) :
  ∃ r h' H', uX P h dt u w = some (r, h') /\ aM h H h' H' /\ HR P h0 h' H' ρ sh' /\ SD P h' H' ρ v r /\ aS h0 H H' := by
 unfold zN at e
 split at e
 case h_2 => cases e
 rename_i et hdt
 split at e
 case h_2 => cases e
 rename_i sz hsz
 split at e
 case h_2 => cases e
 rename_i xe ex b hex
 split at e
 case h_2 => cases e
 rename_i et' e0 ib hg
 obtain ⟨hc, e2⟩ := aj e
 clear e
 simp only [Bool.and_eq_true] at hc
 have h1 := aq hc.1
 have h2 := aq hc.2
 subst et'
 subst xe
 cases e2
 rw [cA] at hl
 have ho := R.bj _ _ hg
 cases ho with
 | iA q1 q2 _ _ => simp [E.b, q1, V.isNil] at hl
 | arr q1 q2 q3 q4 =>
  rename_i a len sz' l0 acs
  cases gd with
  | cu q => rw [q2] at q; cases q
  | view q =>
  rw [q2] at q; cases q
  have hz2 := q3.size
  rw [hsz] at hz2; cases hz2
  have hlen := q3.len
  subst hlen
  have hnew : ∃ m new, elems h sz w = some (m, new) /\ (ex.v ρ).bx.length = m /\ bQ sz (PV P h H.S deep et) (ex.v ρ).bx new := by
   rcases kp R gx hex with ⟨w1, rfl⟩ | ⟨l1, sz, w1, w2, _, _, cs, w3, w4⟩
   ·exact ⟨0, [], rfl, by rw [w1]; rfl, by rw [w1]; rfl⟩
   ·rw [hsz] at w2; cases w2
    exact ⟨l1.length, cs, w3, by rw [w1]; rfl, by rw [w1]; exact w4⟩
  obtain ⟨m, new, n1, n3, n4⟩ := hnew
  have nl := n4.length
  have al := q3.row.length
  rw [n3] at nl
  have hv : (E.over e0 ex).v ρ = .list ((ex.v ρ).bx.take l0.length ++ l0.drop m) := by
   simp only [E.v, q1, V.over]
   rw [show (V.list l0).bx = l0 from rfl, n3]
  have key : bQ sz (PV P h H.S deep et) ((ex.v ρ).bx.take l0.length ++ l0.drop m) (aB acs 0 (new.take (Nat.min m l0.length * sz))) := by
   have ht : (ex.v ρ).bx.take l0.length = (ex.v ρ).bx.take (Nat.min m l0.length) := by
    by_cases hle : m <= l0.length
    ·rw [List.take_of_length_le (by omega), List.take_of_length_le (by rw [n3]; show m <= min m l0.length; omega)]
    ·rw [show Nat.min m l0.length = l0.length from by show min m l0.length = _; omega]
   have hd : l0.drop m = l0.drop (Nat.min m l0.length) := by
    by_cases hle : m <= l0.length
    ·rw [show Nat.min m l0.length = m from by show min m l0.length = _; omega]
    ·rw [List.drop_eq_nil_of_le (by omega), List.drop_eq_nil_of_le (by show l0.length <= min m l0.length; omega)]
   rw [ht, hd]
   have hlen : (new.take (Nat.min m l0.length * sz)).length = Nat.min m l0.length * sz := by
    rw [List.length_take, nl]
    have : Nat.min m l0.length * sz <= m * sz := Nat.mul_le_mul_right _ (Nat.min_le_left _ _)
    omega
   unfold aB
   rw [hlen]
   simp only [List.take_zero, List.nil_append, Nat.zero_add]
   exact (n4.take _).append (q3.row.drop _)
  obtain ⟨x2, R2⟩ := R.gH (o := .arr et (.over e0 ex) sh.next) (ob := .cells (aB acs 0 (new.take (Nat.min m l0.length * sz)))) (acs := aB acs 0 (new.take (Nat.min m l0.length * sz))) (sh' := { sh with next := sh.next + 1, t := sh.t.set b (.arr et (.over e0 ex) sh.next) }) hg rfl rfl q2 rfl rfl rfl (.inr rfl)
   (fun x => .arr (a := a) (len := l0.length) (sz := sz) hv q2 ⟨hsz, q3.pos, by rw [List.length_append, List.length_take, List.length_drop, n3]; omega, by rw [ah.aP]; simp, key.imp fun _ _ q => q.mono x.kept⟩ (by simp [Hid.ib]))
  have hi : (E.min ex.len' e0.len').i ρ = ((Nat.min m l0.length : Nat) : Int) := by
   simp only [E.i, len'_i, q1, vz, V.len, n3]
   show (if (l0.length : Int) < m then (l0.length : Int) else m) = _
   split
   ·rw [show Nat.min m l0.length = l0.length from by show min m l0.length = _; omega]
   ·rw [show Nat.min m l0.length = m from by show min m l0.length = _; omega]
  refine ⟨.int .i64 (Nat.min m l0.length : Nat), _, _, ?_, x2, R2, hi ▸ .int _ _, fun a ha => .inl ha⟩
  simp only [uX, hdt, hsz, n1, q3.get]
  have : (Nat.beq sz sz && Nat.ble (0 + l0.length * sz) acs.length && new.all AV.one) = true := by
   simp only [Bool.and_eq_true, Nat.ble_eq]
   exact ⟨⟨by simp, by rw [al]; omega⟩, by rw [List.all_eq_true]; exact n4.all fun _ _ q => q.cell⟩
  rw [this, cond_true]
theorem pb {f : SV} {fa : AV} {as_ : List SV} {bs : List AV} {n : oQ} (g : SD P h H ρ f fa) (ga : cB P h H ρ as_ bs) (e : wI P f as_ = some n) : ∃ m, me P fa bs = some m /\ qM P h H ρ n m := by
 unfold wI at e
 split at e
 ·split at e
  ·rename_i fn hfn
   split at e
   ·rename_i c hb
    cases e
    cases g with
    | func g1 g2 => exact ⟨_, by simp [me, hfn, hb], .enter ((g1.append ga).append g2)⟩
   ·cases e
  ·cases e
 ·cases e
  cases g with | aF q => exact ⟨_, rfl, .round q⟩
 ·cases e
theorem yv (R : HR P h0 h H ρ sh) {x : Tr SV} {y : Tr AV} (g : mZ P h H ρ x y) {o : Oper} {n : oQ} {l : List E} {sh' : ae} (e : sa P sh x o = some (n, sh', l)) (hl : bo ρ l) :
  ∃ m h' H', bz P h y o = none /\ bH P h.next y o = none /\ cQ P h y o = some (m, h') /\ aM h H h' H' /\ HR P h0 h' H' ρ sh' /\ qM P h' H' ρ n m /\ aS h0 H H' := by
 obtain ⟨dst, op, type, pos, after, guard⟩ := o
 have ev := fun o => cM g o
 unfold sa at e
 simp only at e
 split at e
 ·split at e
  ·rename_i r e1
   cases e
   obtain ⟨h', H', w1, w2, w3, w4⟩ := yk R (ev _) (ev _) e1 hl
   exact ⟨_, h', H', rfl, rfl, by simp only [cQ, w1]; rfl, w2, w3, .value (.bad _), w4⟩
  ·simp only [Option.map_eq_some_iff] at e
   obtain ⟨r, e1, e2⟩ := e
   cases e2
   obtain ⟨h', H', w1, w2, w3, w4⟩ := tC R (ev _) (ev _) e1 hl
   exact ⟨_, h', H', rfl, rfl, by simp only [cQ, w1]; rfl, w2, w3, .value (.bad _), w4⟩
 ·split at e
  ·rename_i hargs htypes
   split at e
   ·rename_i r e1
    obtain ⟨ra, rb, rc⟩ := r
    cases e
    obtain ⟨r', h', H', w1, w2, w3, w4, w5⟩ := wK R (ev _) (ev _) e1 hl
    refine ⟨_, h', H', rfl, rfl, ?_, w2, w3, .value w4, w5⟩
    simp only [cQ, hargs, htypes, w1]; rfl
   ·simp only [Option.map_eq_some_iff] at e
    obtain ⟨⟨ra, rb, rc⟩, e1, e2⟩ := e
    simp only [Prod.mk.injEq] at e2
    obtain ⟨rfl, rfl, rfl⟩ := e2
    obtain ⟨r', h', H', w1, w2, w3, w4, w5⟩ := rR R (ev _) (ev _) e1 hl
    refine ⟨_, h', H', rfl, rfl, ?_, w2, w3, .value w4, w5⟩
    simp only [cQ, hargs, htypes, w1]; rfl
  ·rename_i hargs htypes
   simp only [Option.map_eq_some_iff] at e
   obtain ⟨⟨ra, rb, rc⟩, e1, e2⟩ := e
   simp only [Prod.mk.injEq] at e2
   obtain ⟨rfl, rfl, rfl⟩ := e2
   obtain ⟨r', h', H', w1, w2, w3, w4, w5⟩ := Ao R (ev _) (ev _) e1 hl
   refine ⟨_, h', H', rfl, rfl, ?_, w2, w3, .value w4, w5⟩
   simp only [cQ, hargs, htypes, w1]; rfl
  ·rename_i hargs
   cases e
   refine ⟨.recover, h, H, rfl, rfl, ?_, aM.refl _ _, R, .recover, aS.refl _ _⟩
   simp only [cQ, hargs]
  ·cases e
 ·simp only [Option.map_eq_some_iff] at e
  obtain ⟨r, e1, e2⟩ := e
  cases e2
  obtain ⟨m, w1, w2⟩ := pb (ev _) (cB.map fun a _ => ev a) e1
  exact ⟨m, h, H, rfl, rfl, by simp only [cQ, w1]; rfl, aM.refl _ _, R, w2, aS.refl _ _⟩
 ·rename_i f args argTypes
  split at e
  ·rename_i fn first captured hq
   cases e
   have gf := ev f
   rw [hq] at gf
   cases hh : evalOp y f with
   | func fn' a b =>
    rw [hh] at gf
    cases gf with
    | func g1 g2 =>
     refine ⟨_, h, H, rfl, rfl, by simp only [cQ, hh], aM.refl _ _, R, .defer (.func ((g1.append (cB.map fun a _ => ev a)).append g2)), aS.refl _ _⟩
   | _ => rw [hh] at gf; cases gf
  ·cases e
 ·cases e
end
end Go.Sym
namespace Go.Sym
open Go Go.a9
section
variable {P : Program} {h : ah} {H : Hid} {ρ : Env} {h0 : ah} {sh : ae}
theorem mZ.over {x : Tr SV} {y : Tr AV} (g : mZ P h H ρ x y) (t : Nat) {v : SV} (k : SD P h H ρ v (bJ y t)) : mZ P h H ρ (x.set t v) y := by
 intro c w e
 rw [Tr.aP] at e
 by_cases hc : c = t
 ·subst hc; simp at e; subst e; exact k
 ·rw [if_neg hc] at e; exact g c w e
theorem SD.toBool {u : AV} {e : E} (g : SD P h H ρ (.bool e) u) : u = .bool (e.b ρ) := by cases g; rfl
theorem ik {ops : Array Oper} {x : Tr SV} {y : Tr AV} {o : Oper} {b : Bool} (g : mZ P h H ρ x y) (e : oY ops x o = some (.known b)) : aY ops y o = some b := by
 unfold oY at e
 unfold aY
 cases hg : o.guard with
 | none => rw [hg] at e; cases e; rfl
 | some jw =>
  obtain ⟨j, want⟩ := jw
  rw [hg] at e
  simp only at e ⊢
  cases ho : ops[j]? with
  | none => rw [ho] at e; cases e
  | some q =>
   rw [ho] at e
   simp only at e ⊢
   cases hd : q.dst with
   | none => rw [hd] at e; cases e
   | some d =>
    rw [hd] at e
    simp only at e ⊢
    have gd := g.at d
    split at e
    ·rename_i b' hq
     cases e
     rw [hq] at gd
     rw [gd.toBool]; rfl
    ·cases e
    ·rename_i hq
     cases e
     rw [hq] at gd
     cases hh : bJ y d with
     | tuple l => rw [hh] at gd; cases gd with | tuple q => cases q; rfl
     | _ => rw [hh] at gd; cases gd
    ·cases e
theorem wF {ops : Array Oper} {x : Tr SV} {y : Tr AV} {o : Oper} {d : Tmp} {e0 : E} {want : Bool} (g : mZ P h H ρ x y) (e : oY ops x o = some (.open_ d e0 want)) : aY ops y o = some (e0.b ρ == want) /\ bJ y d = .bool (e0.b ρ) := by
 unfold oY at e
 unfold aY
 cases hg : o.guard with
 | none => rw [hg] at e; cases e
 | some jw =>
  obtain ⟨j, want⟩ := jw
  rw [hg] at e
  simp only at e ⊢
  cases ho : ops[j]? with
  | none => rw [ho] at e; cases e
  | some q =>
   rw [ho] at e
   simp only at e ⊢
   cases hd : q.dst with
   | none => rw [hd] at e; cases e
   | some d =>
    rw [hd] at e
    simp only at e ⊢
    have gd := g.at d
    split at e
    ·cases e
    ·rename_i e' hne hq
     cases e
     rw [hq] at gd
     rw [gd.toBool]
     exact ⟨rfl, rfl⟩
    ·cases e
    ·cases e
theorem nw (R : HR P h0 h H ρ sh) {C : dj} (hC : C.P = P) {fn : FuncId} {x : Tr SV} {y : Tr AV} (g : mZ P h H ρ x y) {ops : Array Oper} : ∀ {chk : List Nat} {l : List E}, sf C fn sh x ops chk = some l -> bo ρ l -> again P h y ops chk = true
 | [], _, _, _ => rfl
 | i :: chk, l, e, hl => by
  unfold sf at e
  unfold again
  cases ho : ops[i]? with
  | none => rw [ho] at e; cases e
  | some o =>
   rw [ho] at e
   simp only at e ⊢
   cases hd : o.dst with
   | none => rw [hd] at e; cases e
   | some d =>
    rw [hd] at e
    simp only at e ⊢
    split at e
    ·rename_i hg
     rw [ik g hg]
     simp only
     split at e
     ·rename_i v c r h1 h2
      obtain ⟨hb, e⟩ := aj e
      cases e
      rw [bo.append] at hl
      rw [hC] at h1
      obtain ⟨u, u1, u2⟩ := rY R g h1 hl.1
      rw [u1]
      simp only [Bool.and_eq_true]
      exact ⟨Cb 7 hb u2 (g.at d), nw R hC g h2 hl.2⟩
     ·cases e
    ·rename_i hg
     rw [ik g hg]
     exact nw R hC g e hl
    ·cases e
theorem tY {x x' : Tr SV} {y : Tr AV} (g : mZ P h H ρ x y) {nt : Nat} {d : Option Tmp} {v : SV} {u : AV} (gv : SD P h H ρ v u) (e : zH nt x d v = some x') : ∃ y', jg nt y d u = some y' /\ mZ P h H ρ x' y' := by
 cases d with
 | none => cases e; exact ⟨y, rfl, g⟩
 | some d =>
  unfold zH at e
  obtain ⟨hc, e⟩ := aj e
  cases e
  exact ⟨y.set d u, by simp [jg, hc], g.set d gv⟩
theorem A7.kP {ops : Array Oper} {i : Nat} {r : List Oper} {b : bu} (g : A7 H (.kP ops i r) b) : b = .kP ops i r := by cases g; rfl
theorem A7.cU {ops : Array Oper} {r : List (Nat × List Nat)} {b : bu} (g : A7 H (.cU ops r) b) : b = .cU ops r := by cases g; rfl
theorem Aw {x : bu} (h : (match x with | .inRangeFunc _ | .endRangeFunc _ => false | _ => true) = true) : ∀ l, x ≠ .inRangeFunc l /\ x ≠ .endRangeFunc l := by
 intro l
 constructor <;> (intro e; subst e; simp at h)
theorem A7.plain {x : bu} (h : (match x with | .inRangeFunc _ | .endRangeFunc _ => false | _ => true) = true) : A7 H x x := .same x (Aw h)
theorem x6.rq {m : qO} (g : x6 .run m) : m = .run := by cases m <;> first | rfl | exact g.elim
theorem x6.nZ {m : qO} (g : x6 .returning m) : m = .returning := by cases m <;> first | rfl | exact g.elim
theorem kV (R : HR P h0 h H ρ sh) {C : dj} (hC : C.P = P) {fr fr' : aT} {f : ak} {v : SV} {u : AV} {l : List E} (g : FR P h H ρ fr f) (gv : SD P h H ρ v u) (e : vf C sh fr v = some (fr', l)) (hl : bo ρ l) :
  ∃ f', bF P h f u = some f' /\ FR P h H ρ fr' f' := by
 unfold vf at e
 have gt := g.todo
 generalize hft : f.todo = ft at gt
 split at e
 ·rename_i ops i o rest k htd
  rw [htd] at gt
  cases gt with
  | cons g1 g2 =>
   rename_i yi ys
   have := g1.kP; subst this
   split at e
   ·rename_i tm htm
    cases e
    obtain ⟨y', y1, y2⟩ := tY g.tm gv htm
    rw [<- g.nt] at y1
    refine ⟨{ f with tm := y', todo := .kP ops (i + 1) rest :: ys }, by simp only [bF, hft, y1], ⟨g.fn, g.nt, y2, .cons (.plain rfl) g2, g.defers, g.mode, g.deferred, g.round⟩⟩
   ·cases e
 ·rename_i ops i chk rest k htd
  rw [htd] at gt
  cases gt with
  | cons g1 g2 =>
   rename_i yi ys
   have := g1.cU; subst this
   split at e
   ·rename_i o ho
    split at e
    ·rename_i tm htm
     simp only [Option.map_eq_some_iff] at e
     obtain ⟨c, h1, h2⟩ := e
     cases h2
     obtain ⟨y', y1, y2⟩ := tY g.tm gv htm
     rw [<- g.nt] at y1
     have ha := nw R hC y2 h1 hl
     refine ⟨{ f with tm := y', todo := .cU ops rest :: ys }, by simp only [bF, hft, ho, y1, ha, cond_true], ⟨g.fn, g.nt, y2, .cons (.plain rfl) g2, g.defers, g.mode, g.deferred, g.round⟩⟩
    ·cases e
   ·cases e
 ·rename_i lp k htd
  rw [htd] at gt
  cases gt with
  | cons g1 g2 =>
   cases e
   cases g1 with
   | same _ q => exact absurd rfl (q lp).1
   | inRangeFunc q =>
    rename_i ys a
    exact ⟨{ f with todo := .endRangeFunc a :: ys }, by simp only [bF, hft], ⟨g.fn, g.nt, g.tm, .cons (.endRangeFunc q) g2, g.defers, g.mode, g.deferred, g.round⟩⟩
 ·cases e
theorem iL : ∀ {as_ : List SV} {bs : List AV} {x : Tr SV} {y : Tr AV} {i : Nat}, cB P h H ρ as_ bs -> mZ P h H ρ x y -> mZ P h H ρ (nm.fc x i as_) (enter.fc y i bs)
 | [], _, x, y, i, .nil, g => g
 | a :: as_, _, x, y, i, .cons g1 g2, g => by unfold nm.fc enter.fc; exact iL g2 (g.set i g1)
theorem fZ {f : FuncId} {as_ : List SV} {bs : List AV} {d : Bool} {fr : aT} (g : cB P h H ρ as_ bs) (e : nm P f as_ d = some fr) : ∃ f', enter P f bs d = some f' /\ FR P h H ρ fr f' := by
 unfold nm at e
 split at e
 ·rename_i fn hfn
  split at e
  ·rename_i c hb
   obtain ⟨hc, e⟩ := aj e
   cases e
   refine ⟨{ fn := f, nt := fn.ntmps, tm := enter.fc .nil 0 bs, todo := [.code c], defers := [], mode := .run, deferred := d, roundOf := none }, by simp only [enter, hfn, hb, <- g.length, hc, cond_true], ⟨rfl, rfl, iL g (fun t v e => by rw [Tr.get_nil] at e; cases e), .cons (.plain rfl) .nil, .nil, trivial, rfl, .none⟩⟩
  ·cases e
 ·cases e
theorem fw (R : HR P h0 h H ρ sh) {l a : Nat} {r : mg} (hn : H.ν l = some (.obj a)) (e : iK sh l = some r) : ∃ r', getLoop h a = some r' /\ kN P h H ρ r r' /\ sh.get l = some (.loop r) /\ h.get a = some (.loop r') := by
 unfold iK at e
 split at e
 ·rename_i q hg
  cases e
  have ho := R.bj _ _ hg
  cases ho with
  | loop e1 e2 e3 =>
   rw [hn] at e1; cases e1
   exact ⟨_, by simp [getLoop, e2], e3, hg, e2⟩
 ·cases e
theorem kX {r : mg} {r' : fS} (hnt : r'.nt = r.nt) : ∀ {ps : List Tmp} {as_ : List SV} {bs : List AV} {x x' : Tr SV} {y : Tr AV}, cB P h H ρ as_ bs -> mZ P h H ρ x y -> gS.o7 r x ps as_ = some x' -> ∃ y', cD.o7 r' y ps bs = some y' /\ mZ P h H ρ x' y'
 | [], as_, bs, x, x', y, ga, g, e => by cases e; exact ⟨y, rfl, g⟩
 | p :: ps, [], _, x, x', y, .nil, g, e => by cases e; exact ⟨y, rfl, g⟩
 | p :: ps, a :: as_, _, x, x', y, .cons g1 g2, g, e => by
  unfold gS.o7 at e
  obtain ⟨hc, e⟩ := aj e
  obtain ⟨y', y1, y2⟩ := kX hnt g2 (g.set p g1) e
  exact ⟨y', by simp only [cD.o7, hnt, hc, cond_true, y1], y2⟩
theorem qR {l a : Nat} {r : mg} {r' : fS} {as_ : List SV} {bs : List AV} {fr : aT} (hn : H.ν l = some (.obj a)) (gl : kN P h H ρ r r') (ga : cB P h H ρ as_ bs) (e : gS l r as_ = some fr) : ∃ f', cD a r' bs = some f' /\ FR P h H ρ fr f' := by
 unfold gS at e
 obtain ⟨hc, e⟩ := aj e
 split at e
 ·rename_i tm htm
  cases e
  obtain ⟨y', y1, y2⟩ := kX gl.nt ga gl.tm htm
  refine ⟨{ fn := r'.fn, nt := r'.nt, tm := y', todo := [.code r'.assign, .beginRound, .code r'.body], defers := [], mode := .run, deferred := false, roundOf := some a }, ?_, ⟨gl.fn, gl.nt, y2, ?_, .nil, trivial, rfl, .some hn⟩⟩
  ·simp only [cD, <- ga.length, gl.params, hc, cond_true, y1]
  ·rw [gl.assign, gl.body]; exact .cons (.plain rfl) (.cons (.plain rfl) (.cons (.plain rfl) .nil))
 ·cases e
theorem en (R : HR P h0 h H ρ sh) {x : Tr SV} {y : Tr AV} (g : mZ P h H ρ x y) : ∀ {rs : List ResultVar} {vs : List SV} {l : List E}, gU P sh x rs = some (vs, l) -> bo ρ l -> ∃ us, bq P h y rs = some us /\ cB P h H ρ vs us
 | [], vs, l, e, hl => by cases e; exact ⟨[], rfl, .nil⟩
 | .tmp t :: rs, vs, l, e, hl => by
  simp only [gU, Option.map_eq_some_iff] at e
  obtain ⟨⟨a, b⟩, e1, e2⟩ := e
  cases e2
  obtain ⟨us, u1, u2⟩ := en R g e1 hl
  exact ⟨_, by simp [bq, u1], .cons (g.at t) u2⟩
 | .cell a t :: rs, vs, l, e, hl => by
  unfold gU at e
  split at e
  ·rename_i v c r h1 h2
   cases e
   rw [bo.append] at hl
   obtain ⟨w, w1, w2⟩ := ud R (g.at a) h1 hl.1
   obtain ⟨us, u1, u2⟩ := en R g h2 hl.2
   exact ⟨w :: us, by simp only [bq, w1, u1], .cons w2 u2⟩
  ·cases e
end
end Go.Sym
namespace Go.Sym
open Go Go.a9
def tz (P : Program) (h : ah) (S : Nat -> Prop) (t : TypeId) (x : V) (a : AV) : Prop :=
 ∃ cs, PV P h S deep t x cs /\ ((bB P t = some true /\ a = .agg cs) \/ (bB P t = some false /\ cs = [a]))
inductive fJ (P : Program) (h : ah) (S : Nat -> Prop) : List TypeId -> List V -> List AV -> Prop
 | nil : fJ P h S [] [] []
 | cons {t : TypeId} {x : V} {a : AV} {ts : List TypeId} {xs : List V} {as_ : List AV} : tz P h S t x a -> fJ P h S ts xs as_ -> fJ P h S (t :: ts) (x :: xs) (a :: as_)
def tv (P : Program) (h : ah) (S : Nat -> Prop) (ts : List TypeId) (r : V) (us : List AV) : Prop :=
 match ts with
 | [t] => ∃ u, us = [u] /\ tz P h S t r u
 | ts => ∃ rs, r = .list rs /\ fJ P h S ts rs us
def Fn (P : Program) (f : FuncId) (xs : List V) (r : V) : Prop :=
 ∀ (h : ah) (S : Nat -> Prop) (as_ : List AV) (fn : Func), P.funcs[f]? = some fn -> (∀ c, S c -> c < h.next) -> (∀ c, h.next <= c -> h.get c = none) -> fJ P h S fn.params.toList xs as_ ->
 ∃ g, enter P f as_ false = some g /\ ∀ callers, ∃ gE h' us, h.next <= h'.next /\ (∀ c, c < h.next -> h'.get c = h.get c) /\ (∀ c, h'.next <= c -> h'.get c = none) /\ tv P h' (fun c => S c \/ (h.next <= c /\ c < h'.next)) fn.resultTypes.toList r us /\
  gE.fn = f /\ gE.mode = .returning /\ gE.defers = [] /\ gE.deferred = false /\ bq P h' gE.tm fn.results.toList = some us /\ bP P ⟨g, callers, h⟩ ⟨gE, callers, h'⟩
section
variable {P : Program} {h h' : ah} {H : Hid} {ρ : Env} {h0 : ah} {sh : ae}
theorem tz.mono {S S' : Nat -> Prop} (k : Kept h S h' S') {t : TypeId} {x : V} {a : AV} (g : tz P h S t x a) : tz P h' S' t x a := by
 obtain ⟨cs, g1, g2⟩ := g
 exact ⟨cs, g1.mono k, g2⟩
theorem fJ.mono {S S' : Nat -> Prop} (k : Kept h S h' S') {ts : List TypeId} {xs : List V} {as_ : List AV} (g : fJ P h S ts xs as_) : fJ P h' S' ts xs as_ := by
 induction g with
 | nil => exact .nil
 | cons a b ih => exact .cons (a.mono k) ih
def zj (h : ah) (H : Hid) (lend : Bool) : Nat -> Prop := fun c => cond lend (c < h.next) (H.S c)
theorem pP (R : HR P h0 h H ρ sh) (lend : Bool) : Kept h H.S h (zj h H lend) := by
 intro c hc
 refine ⟨?_, fun _ e => e⟩
 cases lend
 ·exact hc
 ·exact R.fN c hc
theorem xR (R : HR P h0 h H ρ sh) {lend : Bool} {t : TypeId} {v : SV} {u : AV} {e : E} (g : SD P h H ρ v u) (k : C0 P sh lend t v = some e) : tz P h (zj h H lend) t (e.v ρ) u := by
 unfold C0 at k
 obtain ⟨hp, k2⟩ := aj k
 clear k
 have whole : ∀ {e : E}, valOf P sh deep t v.cells = some e -> tz P h (zj h H lend) t (e.v ρ) u := by
  intro e hv
  unfold oh at hp
  split at hp
  ·rename_i ht
   split at hp
   ·rename_i cs
    simp only [decide_eq_true_eq] at hp
    cases g with
    | agg g =>
     obtain ⟨c, r, w1, w2⟩ := fU R hv g
     have hl := w2.length
     rw [hp] at hl
     have hl2 := g.length
     have hr : r = [] := by
      rw [w1] at hl2
      simp at hl hl2
      exact List.length_eq_zero_iff.1 (by omega)
     subst hr
     rw [List.append_nil] at w1
     subst w1
     exact ⟨_, w2.mono (pP R lend), .inl ⟨ht, rfl⟩⟩
   ·cases hp
  ·rename_i ht
   simp only [Bool.and_eq_true, decide_eq_true_eq] at hp
   have hb : v ≠ .bad := by intro q; subst q; simp [SV.one] at hp
   have gc := g.cells' hb
   rw [g.one' hp.1] at gc
   obtain ⟨c, r, w1, w2⟩ := fU R hv gc
   have hl := w2.length
   rw [hp.2] at hl
   have hl' : c.length = 1 := by simpa using hl.symm
   cases c with
   | nil => simp at hl'
   | cons a c =>
    cases c with
    | nil => simp at w1; obtain ⟨rfl, _⟩ := w1; exact ⟨_, w2.mono (pP R lend), .inr ⟨ht, rfl⟩⟩
    | cons b c => simp at hl'
  ·cases hp
 split at k2
 ·rename_i b
  split at k2
  ·rename_i et e0 ib hg
   split at k2
   ·rename_i et' hu
    obtain ⟨hc, k3⟩ := aj k2
    clear k2
    cases k3
    simp only [Bool.and_eq_true] at hc
    have het := aq hc.1
    subst et'
    have hfin := hc.2
    unfold oh at hp
    have hag : bB P t = some false := by simp [bB, hu]
    rw [hag] at hp
    simp only [Bool.and_eq_true, decide_eq_true_eq] at hp
    have ho := R.bj _ _ hg
    refine ⟨[u], ⟨hp.2, ?_⟩, .inr ⟨hag, rfl⟩⟩
    rw [hu]
    cases ho with
    | iA q1 q2 q3 q4 =>
     cases g with
     | view q => rw [q2] at q; cases q
     | cu q => exact ⟨_, _, rfl, q3, q4, .inl ⟨q1, rfl⟩⟩
    | arr q1 q2 q3 q4 =>
     cases g with
     | cu q => rw [q2] at q; cases q
     | view q =>
      rw [q2] at q; cases q
      have hlen := q3.len
      subst hlen
      refine ⟨_, _, rfl, q3.size, q3.pos, .inr ⟨_, q1, .inl ⟨_, _, _, rfl, R.cV _ _ _ q2 rfl, q3.get, ?_, ?_⟩⟩⟩
      ·rw [q3.row.length]; omega
      ·rw [List.drop_zero, List.take_of_length_le (by rw [q3.row.length]; omega)]
       exact q3.row.imp fun _ _ w => PV.fin hfin (w.mono (pP R true))
   ·cases k2
  ·exact whole k2
 ·exact whole k2
theorem mH (R : HR P h0 h H ρ sh) {lend : Bool} : ∀ {ts : List TypeId} {vs : List SV} {us : List AV} {es : List E}, cB P h H ρ vs us -> uS P sh lend ts vs = some es -> fJ P h (zj h H lend) ts (es.map (E.v ρ)) us
 | [], [], _, es, .nil, k => by cases k; exact .nil
 | t :: ts, v :: vs, _, es, .cons g1 g2, k => by
  unfold uS at k
  split at k
  ·rename_i e l h1 h2
   cases k
   exact .cons (xR R g1 h1) (mH R g2 h2)
  ·cases k
 | [], _ :: _, _, _, _, k => by cases k
 | _ :: _, [], _, _, _, k => by cases k
theorem PV.flat : ∀ {d d' : Nat} {t : TypeId} {x : V} {cs : List AV} {S S' : Nat -> Prop}, bA P d t = false -> PV P h S d' t x cs -> PV P h' S' d' t x cs
 | 0, _, _, _, _, _, _, e, _ => by simp [bA] at e
 | d + 1, 0, _, _, _, _, _, _, g => g.elim
 | d + 1, d' + 1, t, x, cs, S, S', e, g => by
  obtain ⟨g0, g⟩ := g
  refine ⟨g0, ?_⟩
  unfold bA at e
  split at g
  ·exact g
  ·exact g
  ·exact g
  ·rename_i hu; rw [hu] at e; simp at e
  ·rename_i fields hu
   rw [hu] at e
   simp only [List.any_eq_false] at e
   obtain ⟨xs, a, b⟩ := g
   refine ⟨xs, a, ?_⟩
   generalize fields.toList = fs at e b
   have key : ∀ (fs : List Field) (pos : Nat) (xs : List V) (cs : List AV), (∀ f ∈ fs, ¬ bA P d f.type = true) -> pZ P (PV P h S d') fs pos xs cs -> pZ P (PV P h' S' d') fs pos xs cs := by
    intro fs
    induction fs with
    | nil => intro _ _ _ _ g; exact g
    | cons f fs ih =>
     intro pos xs cs hf g
     obtain ⟨x, ys, c, r, e1, e2, o, a, b⟩ := g
     exact ⟨x, ys, c, r, e1, e2, o, PV.flat (by simpa using hf f (by simp)) a, ih _ _ _ (fun g hg => hf g (by simp [hg])) b⟩
   exact key _ _ _ _ e b
  ·rename_i n et hu
   rw [hu] at e
   obtain ⟨xs, sz, a, b, c, k⟩ := g
   exact ⟨xs, sz, a, b, c, k.imp fun _ _ q => PV.flat e q⟩
  ·exact g
theorem fJ.flat {S S' : Nat -> Prop} {ts : List TypeId} {xs : List V} {us : List AV} (e : ts.any (bA P deep) = false) (g : fJ P h S ts xs us) : fJ P h' S' ts xs us := by
 induction g with
 | nil => exact .nil
 | cons a b ih =>
  simp only [List.any_cons, Bool.or_eq_false_iff] at e
  obtain ⟨cs, g1, g2⟩ := a
  exact .cons ⟨cs, g1.flat e.1, g2⟩ (ih e.2)
theorem tv.flat {S S' : Nat -> Prop} {ts : List TypeId} {r : V} {us : List AV} (e : ts.any (bA P deep) = false) (g : tv P h S ts r us) : tv P h' S' ts r us := by
 unfold tv at g ⊢
 split at g
 ·obtain ⟨u, a, cs, g1, g2⟩ := g
  simp only [List.any_cons, List.any_nil, Bool.or_false] at e
  exact ⟨u, a, cs, g1.flat e, g2⟩
 ·obtain ⟨rs, a, b⟩ := g
  exact ⟨rs, a, b.flat e⟩
theorem jT {t : TypeId} {x : V} {a : AV} {cs : List SV} {v : SV} {acs : List AV} (g : cB P h H ρ cs acs) (ha : (bB P t = some true /\ a = .agg acs) \/ (bB P t = some false /\ acs = [a])) (k : sC P t cs = some v) : SD P h H ρ v a := by
 unfold sC at k
 rcases ha with ⟨h1, rfl⟩ | ⟨h1, rfl⟩
 ·rw [h1] at k; cases k; exact .agg g
 ·rw [h1] at k
  simp only at k
  split at k
  ·cases k; cases g with | cons g _ => exact g
  ·cases k
theorem tz.cells {S : Nat -> Prop} {t : TypeId} {x : V} {a : AV} (g : tz P h S t x a) : PV P h S deep t x a.cells /\ ((bB P t = some true /\ a = .agg a.cells) \/ (bB P t = some false /\ a.cells = [a])) := by
 obtain ⟨cs, g1, ⟨h1, rfl⟩ | ⟨h1, rfl⟩⟩ := g
 ·exact ⟨g1, .inl ⟨h1, rfl⟩⟩
 ·have := g1.cell a (by simp)
  have hc : a.cells = [a] := by cases a <;> first | rfl | simp [AV.one] at this
  exact ⟨by rw [hc]; exact g1, .inr ⟨h1, hc⟩⟩
theorem mO {n : Nat} {e : E} {rs : List V} (he : e.v ρ = .list rs) : ∀ {ts : List TypeId} {j off : Nat} {xs : List V} {us : List AV} {vs : List SV} {pre : List AV}, fJ P h H.S ts xs us -> mw P n e j off ts = some vs -> rs.drop j = xs -> pre.length = off -> H.κ n = pre ++ us.flatMap AV.cells -> cB P h H ρ vs us
 | [], j, off, _, _, vs, pre, .nil, k, _, _, _ => by cases k; exact .nil
 | t :: ts, j, off, _, _, vs, pre, .cons (x := x) (a := a) g1 g2, k, hx, hp, hκ => by
  unfold mw at k
  split at k
  ·rename_i cs s h1 h2
   split at k
   ·rename_i v l h3 h4
    cases k
    obtain ⟨p1, p2⟩ := g1.cells
    have hxj : rs[j]? = some x := by
     have := congrArg List.head? hx
     simpa [List.head?_drop] using this
    have hlen := p1.length
    rw [h2] at hlen
    cases hlen
    have hc : cB P h H ρ cs a.cells := by
     refine dC (Nat.le_refl _) (by rw [get'_v, he]; show PV P h H.S deep t ((V.list rs).get (Int.ofNat j)) a.cells; rw [V.gY, hxj]; exact p1) h1 ?_
     intro k av hk
     simp only [fq, hκ, List.flatMap_cons]
     rw [List.getElem?_append_right (by omega), show off + k - pre.length = k from by omega, List.getElem?_append_left (List.getElem?_eq_some_iff.1 hk).1]
     exact hk
    refine .cons (jT (x := x) hc p2 h3) (mO he (pre := pre ++ a.cells) g2 h4 ?_ (by simp [hp]) (by rw [hκ]; simp))
    have : rs.drop (j + 1) = (rs.drop j).drop 1 := by rw [List.drop_drop]
    rw [this, hx]; rfl
   ·cases k
  ·cases k
theorem vl {n : Nat} {e : E} {ts : List TypeId} {us : List AV} {v : SV} (g : tv P h H.S ts (e.v ρ) us) (k : sk P n e ts = some v) (hκ : H.κ n = us.flatMap AV.cells) : SD P h H ρ v (packed us) := by
 unfold sk at k
 unfold tv at g
 split at g
 ·rename_i t
  obtain ⟨u, rfl, g⟩ := g
  simp only at k
  split at k
  ·rename_i cs h1
   obtain ⟨p1, p2⟩ := g.cells
   have hc : cB P h H ρ cs u.cells := by
    refine dC (Nat.le_refl _) p1 h1 ?_
    intro k av hk
    simp only [fq, hκ, Nat.zero_add]
    simpa using hk
   exact jT (x := e.v ρ) hc p2 k
  ·cases k
 ·rename_i hne
  obtain ⟨rs, hr, g⟩ := g
  split at k
  ·exact absurd rfl (hne _)
  ·simp only [Option.map_eq_some_iff] at k
   obtain ⟨l, k1, rfl⟩ := k
   have := mO hr (pre := []) g k1 rfl rfl (by simpa using hκ)
   cases g with
   | nil => cases this; exact .tuple .nil
   | cons a b =>
    cases b with
    | nil => exact absurd rfl (hne _)
    | cons _ _ => exact .tuple this
end
end Go.Sym
