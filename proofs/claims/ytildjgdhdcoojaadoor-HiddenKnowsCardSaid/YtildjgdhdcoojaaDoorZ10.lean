/- Texts of the claim: SymOwn, SymCall, SymStep, SymExec, SymRun, SymAdopt2, SymApi, PathsBase, P_frac_gcd, P_frac_size, P_ref01_digits, P_ref01_cut, P_ref01_compare, P_ref01_times, P_ref01_minus, P_ref01_divide, P_ref01_gcd, P_ref01_value, P_ref01_made, P_ref01_Make, P_ref01_Of, P_frac_Make, P_Split17, P_from17, P_DraftHidden, P_DraftWhat, P_copied17, P_BendOf17, P_few17, P_chains, P_hrow, P_hrows, P_hvalid, P_rrow, P_rRight, P_rSeen, P_rErrors, P_rShows, P_rWeight, P_rPaths, P_rzeros, P_rshort. -/
import Derived.Test.YtildjgdhdcoojaaDoorZ09
import Derived.KernelRfl
import Derived.Test.YtildjgdhdcoojaaDoorProg
set_option linter.unusedVariables false
set_option linter.unusedSimpArgs false
namespace Go.Sym
open Go Go.a9
def Co (P : Program) (h : ah) (t : TypeId) (x : V) (a : AV) (F : List Nat) : Prop :=
 ∃ cs, OV P h deep t x cs F /\ ((bB P t = some true /\ a = .agg cs) \/ (bB P t = some false /\ cs = [a]))
inductive qN (P : Program) (h : ah) : List TypeId -> List V -> List AV -> List Nat -> Prop
 | nil : qN P h [] [] [] []
 | cons {t : TypeId} {x : V} {a : AV} {F G : List Nat} {ts : List TypeId} {xs : List V} {as_ : List AV} : Co P h t x a F -> qN P h ts xs as_ G -> qN P h (t :: ts) (x :: xs) (a :: as_) (F ++ G)
def v8 (P : Program) (h : ah) (ts : List TypeId) (r : V) (us : List AV) (F : List Nat) : Prop :=
 match ts with
 | [t] => ∃ u, us = [u] /\ Co P h t r u F
 | ts => ∃ rs, r = .list rs /\ qN P h ts rs us F
def Cq (P : Program) (f : FuncId) (xs : List V) (r : V) : Prop :=
 ∀ (h : ah) (S : Nat -> Prop) (as_ : List AV) (fn : Func), P.funcs[f]? = some fn -> (∀ c, S c -> c < h.next) -> (∀ c, h.next <= c -> h.get c = none) -> fJ P h S fn.params.toList xs as_ ->
 ∃ g, enter P f as_ false = some g /\ ∀ callers, ∃ gE h' us F, h.next <= h'.next /\ (∀ c, c < h.next -> h'.get c = h.get c) /\ (∀ c, h'.next <= c -> h'.get c = none) /\ v8 P h' fn.resultTypes.toList r us F /\ F.Nodup /\ (∀ a, a ∈ F -> h.next <= a /\ a < h'.next) /\
  gE.fn = f /\ gE.mode = .returning /\ gE.defers = [] /\ gE.deferred = false /\ bq P h' gE.tm fn.results.toList = some us /\ bP P ⟨g, callers, h⟩ ⟨gE, callers, h'⟩
section
variable {P : Program} {h h' : ah} {H : Hid} {ρ : Env} {h0 : ah} {sh : ae}
theorem Co.D0 {S : Nat -> Prop} {t : TypeId} {x : V} {a : AV} {F : List Nat} (hF : ∀ c ∈ F, S c) (g : Co P h t x a F) : tz P h S t x a := by
 obtain ⟨cs, g1, g2⟩ := g
 exact ⟨cs, g1.pv hF, g2⟩
theorem qN.args {S : Nat -> Prop} {ts : List TypeId} {xs : List V} {us : List AV} {F : List Nat} (hF : ∀ c ∈ F, S c) (g : qN P h ts xs us F) : fJ P h S ts xs us := by
 induction g with
 | nil => exact .nil
 | cons a b ih => exact .cons (a.D0 fun c hc => hF c (by simp [hc])) (ih fun c hc => hF c (by simp [hc]))
theorem v8.res {S : Nat -> Prop} {ts : List TypeId} {r : V} {us : List AV} {F : List Nat} (hF : ∀ c ∈ F, S c) (g : v8 P h ts r us F) : tv P h S ts r us := by
 unfold v8 at g
 unfold tv
 split at g
 ·obtain ⟨u, a, b⟩ := g
  exact ⟨u, a, b.D0 hF⟩
 ·obtain ⟨rs, a, b⟩ := g
  rename_i hne
  split
  ·exact absurd rfl (hne _)
  ·exact ⟨rs, a, b.args hF⟩
theorem Cq.fn {f : FuncId} {xs : List V} {r : V} (g : Cq P f xs r) : Fn P f xs r := by
 intro h S as_ fn h1 h2 h3 h4
 obtain ⟨e, e1, k⟩ := g h S as_ fn h1 h2 h3 h4
 refine ⟨e, e1, fun callers => ?_⟩
 obtain ⟨gE, h', us, F, q1, q2, q3, q4, q5, q6, q7⟩ := k callers
 exact ⟨gE, h', us, q1, q2, q3, q4.res fun c hc => .inr (q6 c hc), q7⟩
theorem HR.grow (R : HR P h0 h H ρ sh) (hn : h.next <= h'.next) (hk : ∀ c, c < h.next -> h'.get c = h.get c) (ho : ∀ c, h'.next <= c -> h'.get c = none) : aM h H h' H /\ HR P h0 h' H ρ { sh with nv := sh.nv + 1 } := by
 have hx : aM h H h' H := ⟨fun _ _ e => e, fun _ _ _ e => e, fun _ _ _ _ e => e, fun c hc => ⟨hc, fun _ e => by rw [hk c (R.fN c hc)]; exact e⟩⟩
 refine ⟨hx, ⟨?_, R.inj, R.mL, fun a ha => by have := R.fN a ha; omega, by have := R.next; omega, fun c hc => by rw [hk c (by have := R.next; omega)]; exact R.cJ c hc, R.cR, fun b l a n l1 => by have := R.cV _ _ _ n l1; omega, R.ka, R.kb, ho, R.b4, R.tr.step (fun _ _ e w => ⟨_, e, w, rfl⟩) (fun _ _ _ _ _ _ q => q) (fun _ _ _ _ e w n l => .inl ⟨_, _, _, e, w, n, l⟩) hn⟩⟩
 intro b o e
 exact db.mono hx (fun w => ⟨rfl, fun a ha ob g => by rw [hk a (R.tr.lt _ _ e w a ha).2.2]; exact g⟩) (fun l a n1 l1 ob g => by rw [hk a (R.cV _ _ _ n1 l1)]; exact g) (fun _ _ _ _ => rfl) (fun _ _ => rfl) (R.bj _ _ e)
theorem cB.flat {H' : Hid} : ∀ {x : List SV} {u : List AV}, (x.all fun | .bool _ | .int _ _ | .str _ => true | _ => false) = true -> cB P h H ρ x u -> cB P h H' ρ x u
 | [], _, _, .nil => .nil
 | a :: x, _, e, .cons g1 g2 => by
  simp only [List.all_cons, Bool.and_eq_true] at e
  refine .cons ?_ (cB.flat e.2 g2)
  have h1 := e.1
  cases g1 <;> first | cases h1 | skip
  ·exact .bool _
  ·exact .int _ _
  ·rename_i q; exact .str q
def pW (h0 : ah) (H : Hid) (sh : ae) (H' : Hid) (sh' : ae) (F : List Nat) : Prop := ∀ a, tQ h0 H sh a -> a ∉ F -> tQ h0 H' sh' a
theorem sW {α β : Type} (f : Option β -> α -> Option β) (hf : ∀ a, f none a = none) : ∀ l : List α, l.foldl f none = none
 | [] => rfl
 | a :: l => by rw [List.foldl_cons, hf, sW f hf l]
theorem sD : ∀ {d : Nat} {t : TypeId} {e : E} {sh sh' : ae} {svs : List SV} {H : Hid} {cs : List AV} {F : List Nat} {d' : Nat}, HR P h0 h H ρ sh -> nD P d t e sh = some (sh', svs) -> d' <= deep -> OV P h d' t (e.v ρ) cs F -> F.Nodup -> (∀ a ∈ F, tQ h0 H sh a /\ a < h.next) ->
  sh'.nv = sh.nv /\ ∃ H', aM h H h H' /\ HR P h0 h H' ρ sh' /\ aS h0 H H' /\ cB P h H' ρ svs cs /\ pW h0 H sh H' sh' F := by
 intro d
 induction d with
 | zero => intro t e sh sh' svs H cs F d' R k; exact (Option.some_ne_none _ (k.symm.trans rfl)).elim
 | succ d ih =>
  intro t e sh sh' svs H cs F d' R k hd g hN hF
  unfold nD at k
  cases hsl : bA P deep t with
  | false =>
   rw [hsl] at k
   simp only [cond_false] at k
   split at k
   case h_2 => cases k
   rename_i c hc
   obtain ⟨hall, k⟩ := aj k
   cases k
   have hf := g.kL hsl
   subst hf
   have hpv : PV P h H.S d' t (e.v ρ) cs := g.pv (by simp)
   have sds := dC (H := { H with κ := fun n => if n = 0 then cs else H.κ n }) (way := fun o => .cell 0 o) hd hpv hc (fun k av hk => by simpa [fq] using hk)
   exact ⟨rfl, H, aM.refl _ _, R, aS.refl _ _, sds.flat hall, fun a q _ => q⟩
  | true =>
   rw [hsl] at k
   simp only [cond_true] at k
   cases d' with
   | zero => exact g.elim
   | succ d' =>
   obtain ⟨g0, g⟩ := g
   split at k
   ·rename_i et hu
    rw [hu] at g
    simp only at g
    obtain ⟨av, sz, rfl, g1, g2, g3⟩ := g
    split at k
    case h_2 => cases k
    rename_i z hz
    obtain ⟨hfin, k⟩ := aj k
    cases k
    have hsh : ∀ (x : Nat) (o : b5), (sh.new (bh P et e sh.next)).get x = some o -> (x = sh.next /\ o = bh P et e sh.next) \/ (x ≠ sh.next /\ ¬ False /\ sh.get x = some o) := by
     intro x o ex
     rw [ae.aQ] at ex
     split at ex
     ·rename_i q; cases ex; exact .inl ⟨q, rfl⟩
     ·rename_i q; exact .inr ⟨q, id, ex⟩
    have still : ∀ {H' : Hid} {l : Loc} {G : List Nat}, (∀ a, H'.S a -> H.S a) -> (∀ x, x ≠ sh.next -> H'.ν x = H.ν x /\ H'.fp x = H.fp x) -> H'.ν sh.next = some l -> H'.fp sh.next = G -> (∀ a, l.at = some a -> a ∈ F) -> (bf (bh P et e sh.next) = true -> ∀ a ∈ G, a ∈ F) -> pW h0 H sh H' (sh.new (bh P et e sh.next)) F := by
     intro H' l G hS hν n f hl hG a q hna
     refine ⟨fun s => q.1 (hS a s), q.2.1, fun x o ex w gg => ?_⟩
     rcases hsh x o ex with ⟨rfl, rfl⟩ | ⟨hx, _, ex⟩
     ·rcases gg with ⟨l', n', l1⟩ | ⟨t', m⟩
      ·rw [n] at n'; cases n'; exact hna (hl _ l1)
      ·rw [f] at m; exact hna (hG t' _ m)
     ·refine q.2.2 x o ex w ?_
      obtain ⟨k1, k2⟩ := hν x hx
      rcases gg with ⟨l', n', l1⟩ | ⟨t', m⟩
      ·rw [k1] at n'; exact .inl ⟨l', n', l1⟩
      ·rw [k2] at m; exact .inr ⟨t', m⟩
    have hown : own (bh P et e sh.next) = true := by unfold bh; cases bA P deep et <;> rfl
    rcases g3 with ⟨v1, rfl, rfl⟩ | ⟨li, ai, ci, Gi, v1, rfl, rfl, v4, v5⟩
    ·obtain ⟨H', x1, R1, s1, n1, n2⟩ := R.make' (h' := h) (sh' := sh.new (bh P et e sh.next)) (o1 := bh P et e sh.next) (l := .nil) (acs := []) (G := []) (K := fun _ => False) (Nat.le_refl _) hsh rfl rfl hown (fun c _ => .inl rfl) R.none_
      (fun a q => by rcases q with q | ⟨_, q⟩; cases q; simp at q) (fun _ => ⟨List.nodup_nil, by simp⟩)
      (fun H' x n k f s => by
       unfold bh
       cases bA P deep et with
       | true => exact .eH v1 n g1 g2 f
       | false => exact .iA v1 n g1 g2)
     exact ⟨rfl, H', x1, R1, s1, .cons (.cu n1) .nil, still n2.1 n2.2.1 n1 n2.2.2 (fun a q => by cases q) (fun _ a q => by simp at q)⟩
    ·obtain ⟨nd1, nd2⟩ := List.nodup_cons.1 hN
     have v5' : di sz (OV P h deep et) li ci Gi := v5.imp fun _ _ _ _ q => q.le (by omega)
     obtain ⟨H', x1, R1, s1, n1, n2⟩ := R.make' (h' := h) (sh' := sh.new (bh P et e sh.next)) (o1 := bh P et e sh.next) (l := .nN ai li.length sz) (acs := ci) (G := Gi) (K := fun _ => False) (Nat.le_refl _) hsh rfl rfl hown (fun c _ => .inl rfl) R.none_
      (fun a q => by
       rcases q with q | ⟨_, q⟩
       ·simp only [Loc.at, Option.some.injEq] at q; subst q; exact .inl (hF _ (by simp))
       ·exact .inl (hF _ (by simp [q])))
      (fun _ => ⟨nd2, fun a q => by simp only [Loc.at, Option.some.injEq] at q; subst q; exact nd1⟩)
      (fun H' x n k f s => by
       unfold bh
       cases hsl : bA P deep et with
       | true => exact .tree v1 n ⟨g1, g2, rfl, v4⟩ (by rw [f]; exact v5')
       | false => exact .arr v1 n ⟨g1, g2, rfl, v4, v5'.zD fun _ _ K _ q => q.pv (by rw [q.kL hsl]; simp)⟩ k)
     exact ⟨rfl, H', x1, R1, s1, .cons (.view n1) .nil, still n2.1 n2.2.1 n1 n2.2.2 (fun a q => by simp only [Loc.at, Option.some.injEq] at q; subst q; simp) (fun _ a q => by simp [q])⟩
   ·rename_i fields hu
    rw [hu] at g
    simp only at g
    obtain ⟨xs, x1, x2⟩ := g
    have key : ∀ (fs : List Field) (j pos : Nat) (pre ys : List V) (cs : List AV) (F : List Nat) (sh : ae) (H : Hid) (sh' : ae) (acc svs : List SV), xs = pre ++ ys -> pre.length = j -> HR P h0 h H ρ sh -> v9 P (OV P h d') fs pos ys cs F -> F.Nodup -> (∀ a ∈ F, tQ h0 H sh a /\ a < h.next) ->
      (fs.zipIdx j).foldl (fun r f => match r with | some r => (match nD P d f.1.type (e.get' (.il (Int.ofNat f.2))) r.1 with | some q => some (q.1, r.2 ++ q.2) | none => none) | none => none) (some (sh, acc)) = some (sh', svs) ->
      sh'.nv = sh.nv /\ ∃ H' new, svs = acc ++ new /\ aM h H h H' /\ HR P h0 h H' ρ sh' /\ aS h0 H H' /\ cB P h H' ρ new cs /\ pW h0 H sh H' sh' F := by
     intro fs
     induction fs with
     | nil =>
      intro j pos pre ys cs F sh H sh' acc svs _ _ R g hN hF hf
      simp at hf
      obtain ⟨rfl, rfl⟩ := hf
      obtain ⟨_, rfl, rfl⟩ := g
      exact ⟨rfl, H, [], by simp, aM.refl _ _, R, aS.refl _ _, .nil, fun a q _ => q⟩
     | cons f fs ihf =>
      intro j pos pre ys cs F sh H sh' acc svs hx hp R g hN hF hf
      obtain ⟨x, ys', c, r, G, K, rfl, rfl, rfl, ho, ga, gb⟩ := g
      rw [List.zipIdx_cons, List.foldl_cons] at hf
      simp only at hf
      cases hv : nD P d f.type (e.get' (.il (Int.ofNat j))) sh with
      | none =>
       rw [hv] at hf
       rw [sW _ (fun _ => rfl)] at hf
       cases hf
      | some q =>
       obtain ⟨sh1, sv1⟩ := q
       rw [hv] at hf
       simp only at hf
       have hval : (e.get' (.il (Int.ofNat j))).v ρ = x := by
        rw [get'_v, x1, hx]
        show (V.list (pre ++ x :: ys')).get (Int.ofNat j) = x
        rw [V.gY, <- hp]; simp
       obtain ⟨n1, n2, n3⟩ := List.nodup_append.1 hN
       obtain ⟨w0, H1, w1, w2, w3, w4, w5⟩ := ih (d' := d') R hv (by omega) (by rw [hval]; exact ga) n1 (fun a ha => hF a (by simp [ha]))
       obtain ⟨z0, H2, new, z1, z2, z3, z4, z5, z6⟩ := ihf (j + 1) (pos + c.length) (pre ++ [x]) ys' r K sh1 H1 sh' (acc ++ sv1) svs (by rw [hx]; simp) (by simp [hp]) w2 gb n2 (fun a ha => by
        obtain ⟨q1, q2⟩ := hF a (by simp [ha])
        exact ⟨w5 a q1 (fun hg => n3 a hg a ha rfl), q2⟩) hf
       exact ⟨by rw [z0, w0], H2, sv1 ++ new, by rw [z1, List.append_assoc], w1.trans z2, z3, w3.trans z4, (w4.mono z2).append z5, fun a q hna => z6 a (w5 a q fun hg => hna (by simp [hg])) fun hk => hna (by simp [hk])⟩
    obtain ⟨z0, H', new, z1, z2⟩ := key fields.toList 0 0 [] xs cs F sh H sh' [] svs rfl rfl R x2 hN hF k
    simp only [List.nil_append] at z1
    subst z1
    exact ⟨z0, H', z2⟩
   ·cases k
end
end Go.Sym
namespace Go.Sym
open Go Go.a9
section
variable {P : Program} {h h' : ah} {H : Hid} {ρ : Env} {h0 : ah} {sh : ae}
theorem yV (sh : ae) (x : SV) : (iw sh x).nv = sh.nv := freeze1_nv' sh x
theorem ku : ∀ (l : List SV) (sh : ae), (dG sh l).nv = sh.nv
 | [], _ => rfl
 | x :: l, sh => by
  show (dG (iw sh x) l).nv = _
  rw [ku l, yV]
noncomputable def Hid.call (H : Hid) (n lo hi : Nat) (cs : List AV) : Hid :=
 { H with κ := fun m => if m = n then cs else H.κ m, S := fun c => H.S c \/ (lo <= c /\ c < hi) }
theorem HR.call (R : HR P h0 h H ρ sh) (hn : h.next <= h'.next) (hk : ∀ c, c < h.next -> h'.get c = h.get c) (ho : ∀ c, h'.next <= c -> h'.get c = none) (cs : List AV) :
  aM h H h' (H.call sh.iz h.next h'.next cs) /\ HR P h0 h' (H.call sh.iz h.next h'.next cs) ρ { sh with iz := sh.iz + 1, nv := sh.nv + 1 } := by
 have hx : aM h H h' (H.call sh.iz h.next h'.next cs) := ⟨fun _ _ e => e, fun n j av e => by
   simp only [Hid.call]
   by_cases hm : n = sh.iz
   ·subst hm; rw [R.ka _ (Nat.le_refl _)] at e; simp at e
   ·rw [if_neg hm]; exact e,
  fun _ _ _ _ e => e, fun c hc => ⟨.inl hc, fun _ e => by rw [hk c (R.fN c hc)]; exact e⟩⟩
 refine ⟨hx, ⟨?_, R.inj, ?_, ?_, ?_, ?_, R.cR, ?_, ?_, R.kb, ho, R.b4, R.tr.step (fun _ _ e w => ⟨_, e, w, rfl⟩) (fun b o a e w ha q => q.elim id fun q => by have := (R.tr.lt _ _ e w a ha).2.2; omega) (fun _ _ _ _ e w n l => .inl ⟨_, _, _, e, w, n, l⟩) hn⟩⟩
 ·intro b o e
  refine db.mono hx (fun w => ⟨rfl, fun a ha ob g => by rw [hk a (R.tr.lt _ _ e w a ha).2.2]; exact g⟩) ?_ (fun _ _ _ _ => rfl) ?_ (R.bj _ _ e)
  ·intro l a n1 l1 ob g
   rw [hk a (R.cV _ _ _ n1 l1)]; exact g
  ·intro n hn'
   have := R.Dg hn'
   simp only [Hid.call]; rw [if_neg (by omega)]
 ·intro b o l a e w n1 l1
  obtain ⟨q1, q2⟩ := R.mL _ _ _ _ e w n1 l1
  have := R.cV _ _ _ n1 l1
  exact ⟨fun q => q.elim q1 fun q => by omega, q2⟩
 ·rintro a (q | q)
  ·have := R.fN a q; omega
  ·exact q.2
 ·have := R.next; omega
 ·intro c hc
  rw [hk c (by have := R.next; omega)]; exact R.cJ c hc
 ·intro b l a n1 l1
  have := R.cV _ _ _ n1 l1; omega
 ·intro n hn'
  have hn' : sh.iz + 1 <= n := hn'
  simp only [Hid.call]; rw [if_neg (by omega)]; exact R.ka _ (by omega)
theorem vR (R : HR P h0 h H ρ sh) {f : FuncId} {as_ : List SV} {bs : List AV} {sh1 : ae} {es : List E} {v : SV} (g : cB P h H ρ as_ bs) (k : o9 P sh f as_ = some (sh1, es, v)) (hf : Fn P f (es.map (E.v ρ)) (ρ.v.getD sh.nv .nil)) (callers : List ak) :
  sh1.nv = sh.nv + 1 /\ ∃ fn gf gE h' H' us, P.funcs[f]? = some fn /\ enter P f bs false = some gf /\ aM h H h' H' /\ HR P h0 h' H' ρ sh1 /\ SD P h' H' ρ v (packed us) /\ aS h0 H H' /\
   gE.fn = f /\ gE.mode = .returning /\ gE.defers = [] /\ gE.deferred = false /\ bq P h' gE.tm fn.results.toList = some us /\ bP P ⟨gf, callers, h⟩ ⟨gE, callers, h'⟩ := by
 unfold o9 at k
 split at k
 ·rename_i fn hfn
  simp only at k
  generalize hsl : fn.resultTypes.toList.any (bA P deep) = sl at k
  -- the heap behind the freezing
  generalize hvw : cond sl (eT as_) (nG as_) = vw at k
  obtain ⟨H0, x0, R0, s0⟩ : ∃ H', aM h H h H' /\ HR P h0 h H' ρ (eo P sh vw) /\ aS h0 H H' := gV (P := P) _ R
  obtain ⟨H1, x1, R1, s1⟩ := dS (P := P) vw R0
  have x1 := x0.trans x1
  have s1 := s0.trans s1
  have hnv := ku vw (eo P sh vw)
  rw [show (eo P sh vw).nv = sh.nv from kf _ _] at hnv
  generalize dG (eo P sh vw) vw = shz at k R1 hnv
  split at k
  ·rename_i es' v' h1 h2
   cases k
   refine ⟨by simp [hnv], ?_⟩
   have ga := mH R1 (g.mono x1) h1
   obtain ⟨gf, f1, hf⟩ := hf h (zj h H1 (!sl)) bs fn hfn (by
    intro c hc
    cases sl
    ·exact hc
    ·exact R1.fN c hc) R1.none_ ga
   obtain ⟨gE, h', us, f2, f3, f4, f5, f6, f7, f8, f9, f10, f11⟩ := hf callers
   obtain ⟨x2, R2⟩ := R1.call f2 f3 f4 (us.flatMap AV.cells)
   refine ⟨fn, gf, gE, h', _, us, hfn, f1, x1.trans x2, R2, ?_, s1.trans ?_, f6, f7, f8, f9, f10, f11⟩
   ·refine vl (n := shz.iz) (e := .vv shz.nv) (ts := fn.resultTypes.toList) ?_ h2 (by simp [Hid.call])
    have : (E.vv shz.nv).v ρ = ρ.v.getD sh.nv .nil := by rw [hnv]; rfl
    rw [this]
    cases sl with
    | false => exact f5.flat hsl
    | true => exact f5
   ·rintro a (q | q)
    ·exact .inl q
    ·have := R1.next; exact .inr (by omega)
  ·cases k
 ·cases k
theorem lj {n : Nat} {rs : List V} {e : E} (he : e.v ρ = .list rs) : ∀ {ts : List TypeId} {j : Nat} {xs : List V} {us : List AV} {F : List Nat} {sh sh' : ae} {H : Hid} {vs : List SV}, HR P h0 h H ρ sh -> km P e j ts sh = some (sh', vs) -> rs.drop j = xs -> qN P h ts xs us F -> F.Nodup -> (∀ a ∈ F, tQ h0 H sh a /\ a < h.next) ->
  sh'.nv = sh.nv /\ ∃ H', aM h H h H' /\ HR P h0 h H' ρ sh' /\ aS h0 H H' /\ cB P h H' ρ vs us
 | [], j, xs, us, F, sh, sh', H, vs, R, k, hx, g, hN, hF => by
  cases k; cases g
  exact ⟨rfl, H, aM.refl _ _, R, aS.refl _ _, .nil⟩
 | t :: ts, j, xs, us, F, sh, sh', H, vs, R, k, hx, g, hN, hF => by
  cases g with
  | cons ga gb =>
   rename_i x a F1 F2 xs' us'
   unfold km at k
   split at k
   case h_2 => cases k
   rename_i q hq
   obtain ⟨sh1, cs1⟩ := q
   split at k
   case h_2 => cases k
   rename_i v q2 hv hq2
   obtain ⟨sh2, vs2⟩ := q2
   cases k
   obtain ⟨n1, n2, n3⟩ := List.nodup_append.1 hN
   have hxj : rs[j]? = some x := by
    have := congrArg List.head? hx
    simpa [List.head?_drop] using this
   obtain ⟨cs, o1, o2⟩ := ga
   have hval : (e.get' (.il (Int.ofNat j))).v ρ = x := by
    rw [get'_v, he]
    show (V.list rs).get (Int.ofNat j) = x
    rw [V.gY, hxj]; rfl
   obtain ⟨w0, H1, w1, w2, w3, w4, w5⟩ := sD (d' := deep) R hq (Nat.le_refl _) (by rw [hval]; exact o1) n1 (fun a ha => hF a (by simp [ha]))
   have hx' : rs.drop (j + 1) = xs' := by
    have : rs.drop (j + 1) = (rs.drop j).drop 1 := by rw [List.drop_drop]
    rw [this, hx]; rfl
   obtain ⟨z0, H2, z1, z2, z3, z4⟩ := lj (n := n) he w2 hq2 hx' gb n2 (fun a ha => by
    obtain ⟨q1, q2⟩ := hF a (by simp [ha])
    exact ⟨w5 a q1 fun hg => n3 a hg a ha rfl, q2⟩)
   exact ⟨by rw [z0, w0], H2, w1.trans z1, z2, w3.trans z3, .cons ((jT (x := x) w4 o2 hv).mono z1) z4⟩
theorem tM (R : HR P h0 h H ρ sh) {f : FuncId} {as_ : List SV} {bs : List AV} {sh1 : ae} {es : List E} {v : SV} (g : cB P h H ρ as_ bs) (k : np P sh f as_ = some (sh1, es, v)) (hf : Cq P f (es.map (E.v ρ)) (ρ.v.getD sh.nv .nil)) (callers : List ak) :
  sh1.nv = sh.nv + 1 /\ ∃ fn gf gE h' H' us, P.funcs[f]? = some fn /\ enter P f bs false = some gf /\ aM h H h' H' /\ HR P h0 h' H' ρ sh1 /\ SD P h' H' ρ v (packed us) /\ aS h0 H H' /\
   gE.fn = f /\ gE.mode = .returning /\ gE.defers = [] /\ gE.deferred = false /\ bq P h' gE.tm fn.results.toList = some us /\ bP P ⟨gf, callers, h⟩ ⟨gE, callers, h'⟩ := by
 unfold np at k
 split at k
 case h_2 => cases k
 rename_i fn hfn
 simp only at k
 obtain ⟨H0, x0, R0, s0⟩ : ∃ H', aM h H h H' /\ HR P h0 h H' ρ (eo P sh (eT as_)) /\ aS h0 H H' := gV (P := P) _ R
 have hnv : (eo P sh (eT as_)).nv = sh.nv := kf _ sh
 generalize eo P sh (eT as_) = sz at k R0 hnv
 split at k
 case h_2 => cases k
 rename_i es' hes
 obtain ⟨H1, x1, R1, _⟩ := dS (P := P) (eT as_) R0
 have ga := mH R1 ((g.mono x0).mono x1) hes
 -- the call
 have call : ∀ r, Cq P f (es'.map (E.v ρ)) r -> ∃ gf, enter P f bs false = some gf /\ ∃ gE h' us F, h.next <= h'.next /\ (∀ c, c < h.next -> h'.get c = h.get c) /\ (∀ c, h'.next <= c -> h'.get c = none) /\ v8 P h' fn.resultTypes.toList r us F /\ F.Nodup /\ (∀ a, a ∈ F -> h.next <= a /\ a < h'.next) /\
   gE.fn = f /\ gE.mode = .returning /\ gE.defers = [] /\ gE.deferred = false /\ bq P h' gE.tm fn.results.toList = some us /\ bP P ⟨gf, callers, h⟩ ⟨gE, callers, h'⟩ := by
  intro r hf
  obtain ⟨gf, f1, hf⟩ := hf h (zj h H1 false) bs fn hfn (fun c hc => R1.fN c hc) R1.none_ ga
  exact ⟨gf, f1, hf callers⟩
 have free : ∀ {h' : ah} {F : List Nat}, (∀ a, a ∈ F -> h.next <= a /\ a < h'.next) -> ∀ a ∈ F, tQ h0 H0 { sz with nv := sz.nv + 1 } a /\ a < h'.next := by
  intro h' F hF a ha
  obtain ⟨q1, q2, q3⟩ := R0.free (hF a ha).1
  exact ⟨⟨q1, q2, q3⟩, (hF a ha).2⟩
 have hvv : (E.vv sz.nv).v ρ = ρ.v.getD sh.nv .nil := by rw [hnv]; rfl
 split at k
 ·rename_i t ht
  split at k
  case h_2 => cases k
  rename_i q hq
  obtain ⟨sq, cq⟩ := q
  simp only [Option.map_eq_some_iff, Prod.mk.injEq] at k
  obtain ⟨v', hv, rfl, rfl, rfl⟩ := k
  obtain ⟨gf, f1, gE, h', us, F, f2, f3, f4, f5, f6, f7, f8⟩ := call _ hf
  obtain ⟨x2, R2⟩ := R0.grow f2 f3 f4
  unfold v8 at f5
  rw [ht] at f5
  simp only at f5
  obtain ⟨u, rfl, cs, o1, o2⟩ := f5
  obtain ⟨w0, H3, w1, w2, w3, w4, _⟩ := sD (d' := deep) R2 hq (Nat.le_refl _) (by rw [hvv]; exact o1) f6 (free f7)
  refine ⟨by rw [w0]; show sz.nv + 1 = _; rw [hnv], fn, gf, gE, h', H3, [u], hfn, f1, (x0.trans x2).trans w1, w2, ?_, s0.trans w3, f8⟩
  exact jT (x := .nil) w4 o2 hv
 ·rename_i ts hne
  simp only [Option.map_eq_some_iff, Prod.mk.injEq] at k
  obtain ⟨⟨sq, cq⟩, hq, rfl, rfl, rfl⟩ := k
  obtain ⟨gf, f1, gE, h', us, F, f2, f3, f4, f5, f6, f7, f8⟩ := call _ hf
  obtain ⟨x2, R2⟩ := R0.grow f2 f3 f4
  unfold v8 at f5
  split at f5
  ·rename_i t ht; exact absurd ht (hne _)
  ·obtain ⟨rs, hr, f5⟩ := f5
   obtain ⟨w0, H3, w1, w2, w3, w4⟩ := lj (n := 0) (e := .vv sz.nv) (by rw [hvv]; exact hr) R2 hq rfl f5 f6 (free f7)
   refine ⟨by rw [w0]; show sz.nv + 1 = _; rw [hnv], fn, gf, gE, h', H3, us, hfn, f1, (x0.trans x2).trans w1, w2, ?_, s0.trans w3, f8⟩
   cases w4 with
   | nil => exact .tuple .nil
   | cons a b =>
    cases b with
    | nil =>
     exfalso
     generalize hts : fn.resultTypes.toList = tl at f5
     cases f5 with
     | cons _ g2 => cases g2; exact hne _ hts
    | cons _ _ => exact .tuple (.cons a (.cons ‹_› ‹_›))
end
def ag (P : Program) (ρ : Env) : Nat -> List Ev -> Prop
 | _, [] => True
 | nv, .ask e :: l => e.b ρ = true /\ ag P ρ nv l
 | nv, .call f es :: l => Fn P f (es.map (E.v ρ)) (ρ.v.getD nv .nil) /\ ag P ρ (nv + 1) l
 | nv, .dU f es :: l => Cq P f (es.map (E.v ρ)) (ρ.v.getD nv .nil) /\ ag P ρ (nv + 1) l
def bZ : List Ev -> Nat
 | [] => 0
 | .ask _ :: l => bZ l
 | .call _ _ :: l => bZ l + 1
 | .dU _ _ :: l => bZ l + 1
theorem bd : ∀ (a b : List Ev), bZ (a ++ b) = bZ a + bZ b
 | [], b => by simp [bZ]
 | .ask _ :: a, b => by simp only [List.cons_append, bZ]; exact bd a b
 | .call _ _ :: a, b => by simp only [List.cons_append, bZ, bd a b]; omega
 | .dU _ _ :: a, b => by simp only [List.cons_append, bZ, bd a b]; omega
theorem bG (l : List E) : bZ (asks l) = 0 := by
 induction l with
 | nil => rfl
 | cons a l ih => exact ih
theorem ag.append {P : Program} {ρ : Env} : ∀ {a b : List Ev} {nv : Nat}, ag P ρ nv (a ++ b) ↔ ag P ρ nv a /\ ag P ρ (nv + bZ a) b
 | [], b, nv => by simp [ag, bZ]
 | .ask e :: a, b, nv => by simp only [List.cons_append, ag, bZ, ag.append (a := a), and_assoc]
 | .call f es :: a, b, nv => by
  simp only [List.cons_append, ag, bZ, ag.append (a := a), and_assoc]
  rw [show nv + (bZ a + 1) = nv + 1 + bZ a from by omega]
 | .dU f es :: a, b, nv => by
  simp only [List.cons_append, ag, bZ, ag.append (a := a), and_assoc]
  rw [show nv + (bZ a + 1) = nv + 1 + bZ a from by omega]
theorem ag.asks {P : Program} {ρ : Env} {l : List E} {nv : Nat} : ag P ρ nv (asks l) ↔ bo ρ l := by
 induction l with
 | nil => exact ⟨fun _ => by intro c hc; simp at hc, fun _ => trivial⟩
 | cons a l ih =>
  show (a.b ρ = true /\ ag P ρ nv (Sym.asks l)) ↔ _
  rw [ih]
  exact ⟨fun ⟨h1, h2⟩ c hc => by rcases List.mem_cons.1 hc with rfl | hc; exact h1; exact h2 c hc, fun h => ⟨h a (by simp), fun c hc => h c (by simp [hc])⟩⟩
end Go.Sym
namespace Go.Sym
open Go Go.a9
theorem kr {P : Program} (K : cx P) {pl : fR} {m m' : bc} (e : kM P pl m = some m') : bP P m m' := fun I _ w0 μ c cs tl w r => uR K e r
section
variable {C : dj} {h : ah} {H : Hid} {ρ : Env} {h0 : ah} {S0 : Nat -> Prop} {outer : List ak} {sh : ae}
def rj (h0 : ah) (S0 : Nat -> Prop) (H : Hid) : Prop := ∀ a, H.S a -> S0 a \/ h0.next <= a
theorem rj.grow {H' : Hid} (b : rj h0 S0 H) (g : aS h0 H H') : rj h0 S0 H' := fun a ha => (g a ha).elim (b a) .inr
theorem fV (R : HR C.P h0 h H ρ sh) (B : rj h0 S0 H) {fr : aT} {f : ak} {callers : List aT} {cs : List ak} {v : SV} {u : AV} {ev : List Ev} {ch : List Bool} {o : Out} {nv : Nat} (gf : FR C.P h H ρ fr f) (gc : we C.P h H ρ callers cs) (gv : SD C.P h H ρ v u)
  (e : du C fr callers sh v ev ch = some o) (hev : ag C.P ρ nv o.ev) :
  ∃ f', bF C.P h f u = some f' /\ MR C.P h0 S0 outer ρ o.m { fr := f', callers := cs ++ outer, h } /\ o.m.h = sh /\ ∃ l, o.ev = ev ++ asks l := by
 unfold du at e
 simp only [Option.map_eq_some_iff] at e
 obtain ⟨⟨fr', l⟩, e1, rfl⟩ := e
 simp only at hev
 rw [ag.append, ag.asks] at hev
 obtain ⟨f', w1, w2⟩ := kV R rfl gf gv e1 hev.2
 exact ⟨f', w1, ⟨H, cs, rfl, w2, gc, R, B⟩, rfl, l, rfl⟩
theorem nq (K : cx C.P) (R : HR C.P h0 h H ρ sh) (B : rj h0 S0 H) {fr : aT} {f : ak} {callers : List aT} {cs : List ak} {n : oQ} {an : j9} {args : List SV} {aargs : List AV} {ev : List Ev} {ch : List Bool} {o : Out} {m : bc} (hm : fr.mode = .run)
  (gf : FR C.P h H ρ fr f) (gc : we C.P h H ρ callers cs) (gn : qM C.P h H ρ n an) (ga : cB C.P h H ρ args aargs) (nv0 : Nat) (hnv : sh.nv = nv0 + bZ ev)
  (e : nr C fr callers n sh args ev ch = some o) (hev : ag C.P ρ nv0 o.ev) (pre : ∀ m', apply C.P f (cs ++ outer) an h aargs = some m' -> bP C.P m m') :
  (∃ m', bP C.P m m' /\ MR C.P h0 S0 outer ρ o.m m') /\ o.m.h.nv = nv0 + bZ o.ev := by
 have val : ∀ {v : SV} {u : AV} {f : ak} {fr : aT}, FR C.P h H ρ fr f -> SD C.P h H ρ v u -> du C fr callers sh v ev ch = some o -> (∀ f', bF C.P h f u = some f' -> bP C.P m ⟨f', cs ++ outer, h⟩) -> (∃ m', bP C.P m m' /\ MR C.P h0 S0 outer ρ o.m m') /\ o.m.h.nv = nv0 + bZ o.ev := by
  intro v u f fr gf gv e k
  obtain ⟨f', w1, w2, w3, l, w4⟩ := fV R B (outer := outer) (S0 := S0) gf gc gv e hev
  refine ⟨⟨_, k f' w1, w2⟩, ?_⟩
  rw [w3, w4, bd, bG]; omega
 unfold nr at e
 cases gn with
 | value gv =>
  exact val gf gv e fun f' hf => pre _ (by simp only [apply, hf])
 | enter gargs =>
  rename_i fn as_ bs
  simp only at e
  cases hc : C.EI.contains fn with
  | true =>
   rw [hc] at e
   simp only [cond_true] at e
   split at e
   ·rename_i sh1 es v hk
    have hev2 := hev
    unfold du at e
    simp only [Option.map_eq_some_iff] at e
    obtain ⟨⟨fr', l⟩, e1, rfl⟩ := e
    simp only at hev ⊢
    rw [ag.append, ag.append] at hev
    obtain ⟨⟨_, hcall, _⟩, hl⟩ := hev
    rw [ag.asks] at hl
    rw [<- hnv] at hcall
    obtain ⟨hn1, func, gfr, gE, h', H', us, c1, c2, c3, c4, c5, c6, c7, c8, c9, c10, c11, c12⟩ := vR R gargs hk hcall (f :: (cs ++ outer))
    obtain ⟨f', w1, w2⟩ := kV c4 rfl (gf.mono c3) c5 e1 hl
    refine ⟨⟨⟨f', cs ++ outer, h'⟩, ?_, ⟨H', cs, rfl, w2, gc.mono c3, c4, B.grow c6⟩⟩, ?_⟩
    ·refine (pre ⟨gfr, f :: (cs ++ outer), h⟩ (by simp only [apply, c2])).trans (c12.trans (kr K (pl := C.pl) ?_))
     have hfm : f.mode = .run := by have := gf.mode; rw [hm] at this; exact this.rq
     have ar : dp C.P gE (f :: (cs ++ outer)) (packed us) h' = some ⟨f', cs ++ outer, h'⟩ := by
      simp only [dp, c10, cond_false, hfm, w1]
     unfold kM
     simp only [c8]
     unfold a9.unwind
     simp only [c9, c8, c7, c1, c11]
     cases us with
     | nil => exact ar
     | cons a b => cases b <;> exact ar
    ·rw [hn1, bd, bd, bG]; simp only [bZ]; omega
   ·cases e
  | false =>
   rw [hc] at e
   simp only [cond_false] at e
   cases hcO : C.DH.contains fn with
   | true =>
    rw [hcO] at e
    simp only [cond_true] at e
    split at e
    ·rename_i sh1 es v hk
     have hev2 := hev
     unfold du at e
     simp only [Option.map_eq_some_iff] at e
     obtain ⟨⟨fr', l⟩, e1, rfl⟩ := e
     simp only at hev ⊢
     rw [ag.append, ag.append] at hev
     obtain ⟨⟨_, hcall, _⟩, hl⟩ := hev
     rw [ag.asks] at hl
     rw [<- hnv] at hcall
     obtain ⟨hn1, func, gfr, gE, h', H', us, c1, c2, c3, c4, c5, c6, c7, c8, c9, c10, c11, c12⟩ := tM R gargs hk hcall (f :: (cs ++ outer))
     obtain ⟨f', w1, w2⟩ := kV c4 rfl (gf.mono c3) c5 e1 hl
     refine ⟨⟨⟨f', cs ++ outer, h'⟩, ?_, ⟨H', cs, rfl, w2, gc.mono c3, c4, B.grow c6⟩⟩, ?_⟩
     ·refine (pre ⟨gfr, f :: (cs ++ outer), h⟩ (by simp only [apply, c2])).trans (c12.trans (kr K (pl := C.pl) ?_))
      have hfm : f.mode = .run := by have := gf.mode; rw [hm] at this; exact this.rq
      have ar : dp C.P gE (f :: (cs ++ outer)) (packed us) h' = some ⟨f', cs ++ outer, h'⟩ := by
       simp only [dp, c10, cond_false, hfm, w1]
      unfold kM
      simp only [c8]
      unfold a9.unwind
      simp only [c9, c8, c7, c1, c11]
      cases us with
      | nil => exact ar
      | cons a b => cases b <;> exact ar
     ·rw [hn1, bd, bd, bG]; simp only [bZ]; omega
    ·cases e
   | false =>
    rw [hcO] at e
    simp only [cond_false] at e
    split at e
    ·rename_i g hg
     cases e
     obtain ⟨f', w1, w2⟩ := fZ gargs hg
     exact ⟨⟨⟨f', f :: (cs ++ outer), h⟩, pre _ (by simp only [apply, w1]), ⟨H, f :: cs, rfl, w2, .cons gf gc, R, B⟩⟩, hnv⟩
    ·cases e
 | round hq =>
  rename_i l a
  simp only at e
  split at e
  ·rename_i r hr
   split at e
   ·rename_i func hfn
    split at e
    ·rename_i g hg
     cases e
     obtain ⟨r', k1, k2, k3, k4⟩ := fw R hq hr
     obtain ⟨f', w1, w2⟩ := qR hq k2 ga hg
     refine ⟨⟨⟨f', f :: (cs ++ outer), h⟩, pre _ (by simp only [apply, k1, k2.fn, hfn, w1]), ⟨H, f :: cs, rfl, w2, .cons gf gc, R, B⟩⟩, hnv⟩
    ·cases e
   ·cases e
  ·cases e
 | defer gd =>
  rename_i d d'
  simp only at e
  have gr := gf.round
  split at e
  ·rename_i hro
   rw [hro] at gr
   generalize hfr : f.roundOf = fro at gr
   cases gr
   refine val (f := { f with defers := d' :: f.defers }) (fr := { fr with defers := d :: fr.defers }) ⟨gf.fn, gf.nt, gf.tm, gf.todo, .cons gd gf.defers, gf.mode, gf.deferred, gf.round⟩ (.bad .bad) e fun f' hf => pre _ ?_
   simp only [hfr] at hf
   simp only [apply, hfr, hf]
  ·cases e
 | recover =>
  simp only at e
  have gr := gf.round
  split at e
  ·rename_i hro
   rw [hro] at gr
   generalize hfr : f.roundOf = fro at gr
   cases gr
   split at e
   ·rename_i c rest hd
    cases gc with
    | cons g1 g2 =>
     rename_i y ys
     refine val gf .cW e fun f' hf => pre _ ?_
     have hfd : f.deferred = true := by rw [gf.deferred]; exact hd
     have hm1 := g1.mode
     simp only [apply, hfr, hfd, List.cons_append]
     cases hym : y.mode with
     | run => simp only [hf]
     | returning => simp only [hf]
     | panicking q => rw [hym] at hm1; cases hcm : c.mode <;> rw [hcm] at hm1 <;> exact hm1.elim
   ·cases e
  ·cases e
theorem Am {P : Program} {sh sh' : ae} {x : Tr SV} {o : Oper} {v : SV} {l : List E} (e : sc P sh x o = some (sh', v, l)) : sh'.nv = sh.nv := by
 unfold sc at e
 split at e
 ·split at e
  ·obtain ⟨_, e⟩ := aj e; cases e; rfl
  ·cases e
 ·split at e
  ·cases e
  ·obtain ⟨_, e⟩ := aj e; cases e; rfl
 ·split at e
  ·split at e
   ·obtain ⟨_, e⟩ := aj e
    split at e
    ·cases e; exact ku _ _
    ·cases e
   ·cases e
  ·cases e
 ·split at e
  ·split at e
   ·obtain ⟨_, e⟩ := aj e
    split at e
    ·cases e; rfl
    ·cases e
   ·cases e
  ·cases e
 ·cases e
theorem tE {P : Program} {hJ : DM} {fn : FuncId} {sh sh' : ae} {x : Tr SV} {o : Oper} {v : SV} {l : List E} (e : iI P hJ fn sh x o = some (sh', v, l)) : sh'.nv = sh.nv := by
 unfold iI at e
 obtain ⟨_, e⟩ := aj e
 split at e
 ·split at e
  ·split at e
   ·obtain ⟨_, e⟩ := aj e
    split at e
    ·obtain ⟨_, e⟩ := aj e
     cases e; exact (sP _ _).2.2
    ·cases e
   ·cases e
  ·cases e
 ·split at e
  ·split at e
   ·obtain ⟨_, e⟩ := aj e
    split at e
    ·cases e; rfl
    ·cases e
   ·cases e
  ·cases e
 ·cases e
theorem u0 {P : Program} {sh sh' : ae} {t : TypeId} {a v : SV} {l : List E} (e : jM P sh t a v = some (sh', l)) : sh'.nv = sh.nv := by
 unfold jM at e
 split at e
 ·split at e
  ·split at e
   ·split at e
    ·cases hs : bA P deep t with
     | true => rw [hs] at e; cases e
     | false =>
      rw [hs] at e
      simp only [cond_false] at e
      split at e
      ·obtain ⟨_, e⟩ := aj e
       split at e
       ·cases e; rfl
       ·cases e
      ·cases e
    ·obtain ⟨_, e⟩ := aj e
     split at e
     ·cases e; rfl
     ·split at e
      ·cases e; rfl
      ·cases e
     ·cases e
   ·cases e
  ·obtain ⟨_, e⟩ := aj e
   split at e
   ·split at e
    ·cases e; rfl
    ·cases e
   ·cases e
  ·cases e
 ·cases e
theorem tD {P : Program} {sh sh' : ae} {st xt : TypeId} {s x v : SV} {l : List E} (e : iG P sh st xt s x = some (v, sh', l)) : sh'.nv = sh.nv := by
 unfold iG at e
 split at e
 ·split at e
  ·obtain ⟨_, e⟩ := aj e
   split at e
   ·cases e; rfl
   ·split at e
    ·obtain ⟨_, e⟩ := aj e
     cases e; rfl
    ·cases e
   ·cases e
  ·cases e
 ·cases e
theorem Al {P : Program} {sh sh' : ae} {x : Tr SV} {o : Oper} {n : oQ} {l : List E} (e : sa P sh x o = some (n, sh', l)) : sh'.nv = sh.nv := by
 unfold sa at e
 split at e
 ·split at e
  rotate_left
  ·simp only [Option.map_eq_some_iff] at e
   obtain ⟨⟨r1, r2⟩, e1, e2⟩ := e
   simp only [Prod.mk.injEq] at e2
   obtain ⟨_, rfl, _⟩ := e2
   exact u0 e1
  rename_i r e1
  obtain ⟨r1, r2⟩ := r
  simp only [Option.some.injEq, Prod.mk.injEq] at e
  obtain ⟨_, rfl, _⟩ := e
  unfold u9 at e1
  split at e1
  ·split at e1
   ·split at e1
    ·obtain ⟨_, e1⟩ := aj e1; cases e1; rfl
    ·cases e1
   ·cases e1
  ·simp only at e1
   split at e1
   ·split at e1
    ·obtain ⟨_, e1⟩ := aj e1
     split at e1
     ·split at e1
      ·cases e1; exact ku _ _
      ·cases e1
     ·cases e1
    ·cases e1
   ·cases e1
  ·cases e1
 ·split at e
  ·split at e
   rotate_left
   ·simp only [Option.map_eq_some_iff] at e
    obtain ⟨⟨r1, r2, r3⟩, e1, e2⟩ := e
    simp only [Prod.mk.injEq] at e2
    obtain ⟨_, rfl, _⟩ := e2
    exact tD e1
   rename_i r e1
   obtain ⟨r1, r2, r3⟩ := r
   simp only [Option.some.injEq, Prod.mk.injEq] at e
   obtain ⟨_, rfl, _⟩ := e
   unfold rp at e1
   split at e1
   ·split at e1
    ·obtain ⟨_, e1⟩ := aj e1
     split at e1
     ·obtain ⟨_, e1⟩ := aj e1
      split at e1
      ·cases e1; rfl
      ·split at e1
       ·obtain ⟨_, e1⟩ := aj e1; cases e1; rfl
       ·cases e1
      ·cases e1
     ·cases e1
    ·cases e1
   ·cases e1
  ·simp only [Option.map_eq_some_iff] at e
   obtain ⟨⟨r1, r2, r3⟩, e1, e2⟩ := e
   simp only [Prod.mk.injEq] at e2
   obtain ⟨_, rfl, _⟩ := e2
   unfold zN at e1
   split at e1
   ·split at e1
    ·split at e1
     ·split at e1
      ·obtain ⟨_, e1⟩ := aj e1; cases e1; rfl
      ·cases e1
     ·cases e1
    ·cases e1
   ·cases e1
  ·cases e; rfl
  ·cases e
 ·simp only [Option.map_eq_some_iff] at e
  obtain ⟨r, e1, e2⟩ := e
  cases e2; rfl
 ·split at e
  ·cases e; rfl
  ·cases e
 ·cases e
theorem fW {fr : aT} {callers : List aT} {v : SV} {ev : List Ev} {ch : List Bool} {o : Out} (e : du C fr callers sh v ev ch = some o) : ∃ l, o.ev = ev ++ l := by
 unfold du at e
 simp only [Option.map_eq_some_iff] at e
 obtain ⟨r, _, rfl⟩ := e
 exact ⟨_, rfl⟩
theorem uj {fr : aT} {callers : List aT} {n : oQ} {args : List SV} {ev : List Ev} {ch : List Bool} {o : Out} (e : nr C fr callers n sh args ev ch = some o) : ∃ l, o.ev = ev ++ l := by
 unfold nr at e
 split at e
 ·exact fW e
 ·cases hc : C.EI.contains _ with
  | false =>
   rw [hc] at e
   simp only [cond_false] at e
   cases hcO : C.DH.contains _ with
   | true =>
    rw [hcO] at e
    simp only [cond_true] at e
    split at e
    ·obtain ⟨l, hl⟩ := fW e
     exact ⟨_, by rw [hl, List.append_assoc]⟩
    ·cases e
   | false =>
    rw [hcO] at e
    simp only [cond_false] at e
    split at e
    ·cases e; exact ⟨[], by simp⟩
    ·cases e
  | true =>
   rw [hc] at e
   simp only [cond_true] at e
   split at e
   ·obtain ⟨l, hl⟩ := fW e
    exact ⟨_, by rw [hl, List.append_assoc]⟩
   ·cases e
 ·split at e
  ·split at e
   ·split at e
    ·cases e; exact ⟨[], by simp⟩
    ·cases e
   ·cases e
  ·cases e
 ·split at e
  ·exact fW e
  ·cases e
 ·split at e
  ·split at e
   ·exact fW e
   ·cases e
  ·cases e
theorem Bm (K : cx C.P) (R : HR C.P h0 h H ρ sh) (B : rj h0 S0 H) {fr : aT} {f : ak} {callers : List aT} {cs : List ak} {op : Oper} {ev : List Ev} {ch : List Bool} {o : Out} {m : bc} {ops : Array Oper} (hm : fr.mode = .run)
  (gf : FR C.P h H ρ fr f) (gc : we C.P h H ρ callers cs) (hne : bZ ev = 0)
  (e : Bn C fr callers sh op ev ch = some o) (hev : ag C.P ρ sh.nv o.ev) (hw : aY ops f.tm op = some true) (pre : ∀ m', iW C.P f (cs ++ outer) h ops op = some m' -> bP C.P m m') :
  (∃ m', bP C.P m m' /\ MR C.P h0 S0 outer ρ o.m m') /\ o.m.h.nv = sh.nv + bZ o.ev := by
 unfold Bn at e
 split at e
 ·rename_i v c hs
  have hev' := hev
  have hc : bo ρ c := by
   unfold du at e
   simp only [Option.map_eq_some_iff] at e
   obtain ⟨⟨fr', l⟩, e1, rfl⟩ := e
   simp only at hev
   rw [ag.append, ag.append, ag.asks] at hev
   exact hev.1.2
  obtain ⟨u, u1, u2⟩ := rY R gf.tm hs hc
  obtain ⟨f', w1, w2, w3, l, w4⟩ := fV R B (outer := outer) (S0 := S0) gf gc u2 e hev
  refine ⟨⟨_, pre _ (by simp only [iW, hw, u1, w1]), w2⟩, ?_⟩
  rw [w3, w4, bd, bd, bG, bG]; omega
 ·rename_i hs
  split at e
  ·rename_i sh1 v c hs1
   have hc : bo ρ c := by
    unfold du at e
    simp only [Option.map_eq_some_iff] at e
    obtain ⟨⟨fr', l⟩, e1, rfl⟩ := e
    simp only at hev
    rw [ag.append, ag.append, ag.asks] at hev
    exact hev.1.2
   have hfr : (∃ ob u H', bz C.P h f.tm op = none /\ bH C.P h.next f.tm op = some (ob, u) /\ aM h H (h.new ob) H' /\ HR C.P h0 (h.new ob) H' ρ sh1 /\ SD C.P (h.new ob) H' ρ v u /\ aS h0 H H') /\ sh1.nv = sh.nv := by
    split at hs1
    ·rename_i r hs2
     cases hs1
     exact ⟨rT R gf.tm hs2 hc, tE hs2⟩
    ·exact ⟨yw R gf.tm hs1 hc, Am hs1⟩
   obtain ⟨⟨ob, u, H', z1, z2, z3, z4, z5, z6⟩, hnv1⟩ := hfr
   obtain ⟨f', w1, w2, w3, l, w4⟩ := fV z4 (B.grow z6) (outer := outer) (S0 := S0) (gf.mono z3) (gc.mono z3) z5 e hev
   refine ⟨⟨_, pre _ (by simp only [iW, hw, z1, z2, w1]), w2⟩, ?_⟩
   rw [w3, w4, bd, bd, bG, bG, hne]
   omega
  ·split at e
   ·rename_i n sh1 c hs1
    have hpre : ∃ l, o.ev = (ev ++ asks c) ++ l := uj e
    have hc : bo ρ c := by
     obtain ⟨l, hl⟩ := hpre
     rw [hl, ag.append, ag.append, ag.asks] at hev
     exact hev.1.2
    obtain ⟨an, h', H', z1, z2, z3, z4, z5, z6, z7⟩ := yv R gf.tm hs1 hc
    refine nq (aargs := match op.op with | .call c => c.args.toList.map (evalOp f.tm) | _ => []) K z5 (B.grow z7) hm (gf.mono z4) (gc.mono z4) z6 ?_ sh.nv ?_ e hev ?_
    ·cases op.op with
     | call c => exact cB.map fun a _ => (cM gf.tm a).mono z4
     | _ => exact .nil
    ·rw [Al hs1, bd, bG, hne]; rfl
    ·intro m' hm'
     refine pre _ ?_
     simp only [iW, hw, z1, z2, z3]
     exact hm'
   ·cases e
theorem svalue_ev' {fr : aT} {callers : List aT} {v : SV} {ev : List Ev} {ch : List Bool} {o : Out} {c : List E} (e : du C fr callers sh v (ev ++ asks c) ch = some o) : ∃ l, o.ev = ev ++ l := by
 obtain ⟨l, hl⟩ := fW e
 exact ⟨asks c ++ l, by rw [hl, List.append_assoc]⟩
theorem zM {fr : aT} {callers : List aT} {op : Oper} {ev : List Ev} {ch : List Bool} {o : Out} (e : Bn C fr callers sh op ev ch = some o) : ∃ l, o.ev = ev ++ l := by
 unfold Bn at e
 split at e
 ·exact svalue_ev' e
 ·split at e
  ·exact svalue_ev' e
  ·split at e
   ·rename_i n sh1 c hs1
    obtain ⟨l, hl⟩ := uj e
    exact ⟨asks c ++ l, by rw [hl, List.append_assoc]⟩
   ·cases e
theorem zL (K : cx C.P) (R : HR C.P h0 h H ρ sh) (B : rj h0 S0 H) {fr : aT} {f : ak} {callers : List aT} {cs : List ak} {op : Oper} {ev : List Ev} {ch : List Bool} {o : Out} {m : bc} {ops : Array Oper} (hm : fr.mode = .run)
  (gf : FR C.P h H ρ fr f) (gc : we C.P h H ρ callers cs) (hne : bZ ev = 0)
  (e : DY C fr callers sh op ev ch = some o) (hev : ag C.P ρ sh.nv o.ev) (hw : aY ops f.tm op = some true) (pre : ∀ m', iW C.P f (cs ++ outer) h ops op = some m' -> bP C.P m m') :
  (∃ m', bP C.P m m' /\ MR C.P h0 S0 outer ρ o.m m') /\ o.m.h.nv = sh.nv + bZ o.ev := by
 unfold DY at e
 have hl : bo ρ (rV C.P (rJ C.hJ fr.fn op.dst) sh fr.tm op).2 := by
  obtain ⟨l, hl⟩ := zM e
  rw [hl, ag.append, ag.append, ag.asks] at hev
  exact hev.1.2
 have hnv := Bb (P := C.P) (rJ C.hJ fr.fn op.dst) sh fr.tm op
 obtain ⟨H1, x1, R1, s1⟩ := Aj R hl
 have := Bm (S0 := S0) (outer := outer) (m := m) K R1 (B.grow s1) hm (gf.mono x1) (gc.mono x1) (by rw [bd, bG, hne]) e (by rw [hnv]; exact hev) hw pre
 rw [hnv] at this
 exact this
end
end Go.Sym
namespace Go.Sym
open Go Go.a9
section
variable {C : dj} {h : ah} {H : Hid} {ρ : Env} {h0 : ah} {S0 : Nat -> Prop} {outer : List ak} {sh : ae}
def eS (C : dj) (h0 : ah) (S0 : Nat -> Prop) (outer : List ak) (ρ : Env) (nv : Nat) (m : bc) (o : Out) : Prop :=
 (∃ m', bP C.P m m' /\ MR C.P h0 S0 outer ρ o.m m') /\ o.m.h.nv = nv + bZ o.ev
theorem mV {e : E} : ∀ {n k : Nat} {ch ch' : List Bool} {j : Nat} {cs : List E}, rC e n k ch = some (j, cs, ch') -> bo ρ cs -> e.i ρ = Int.ofNat j
 | 0, _, _, _, _, _, q, _ => by cases q
 | n + 1, k, ch, ch', j, cs, q, hl => by
  unfold rC at q
  split at q
  ·cases q
   have := hl _ (List.mem_singleton.2 rfl)
   simpa [E.b, E.i, aK] using this
  ·simp only [Option.map_eq_some_iff] at q
   obtain ⟨⟨j', cs', ch2⟩, q1, q2⟩ := q
   cases q2
   exact mV q1 fun c hc => hl c (List.mem_cons_of_mem _ hc)
  ·cases q
theorem CO {P : Program} {tm : Tr SV} {o : Oper} {d : Tmp} {k : IntKind} {e : E} {n : Nat} (q : DB P tm o = some (d, k, e, n)) : mM tm d = .int k e := by
 obtain ⟨dst, op, type, pos, after, guard⟩ := o
 unfold DB at q
 simp only at q
 split at q
 ·split at q
  ·rename_i h2
   split at q
   ·cases q
   ·obtain ⟨_, q⟩ := aj q
    cases q; exact h2
  ·cases q
 ·split at q
  ·rename_i h2
   split at q
   ·cases q
   ·obtain ⟨_, q⟩ := aj q
    cases q; exact h2
  ·cases q
 ·cases q
theorem tZ (K : cx C.P) (R : HR C.P h0 h H ρ sh) (B : rj h0 S0 H) {fr : aT} {f : ak} {callers : List aT} {cs : List ak} {op : Oper} {ch : List Bool} {o : Out} {m : bc} {ops : Array Oper} (hm : fr.mode = .run)
  (gf : FR C.P h H ρ fr f) (gc : we C.P h H ρ callers cs)
  (e : zI C fr callers sh ops op ch = some o) (hev : ag C.P ρ sh.nv o.ev) (self : bP C.P m ⟨f, cs ++ outer, h⟩) (pre : ∀ m', iW C.P f (cs ++ outer) h ops op = some m' -> bP C.P m m') : eS C h0 S0 outer ρ sh.nv m o := by
 unfold zI at e
 split at e
 ·rename_i hg
  split at e
  ·rename_i d k e0 n hix
   split at e
   ·rename_i j cs' ch' hs
    cases e
    have hl : bo ρ cs' := ag.asks.1 hev
    have hj := mV hs hl
    have hd := gf.tm.at d
    rw [CO hix] at hd
    have hd' : SD C.P h H ρ (.int k (.il (Int.ofNat j))) (bJ f.tm d) := by
     generalize bJ f.tm d = u at hd
     cases hd
     rw [hj]; exact .int k (.il (Int.ofNat j))
    exact ⟨⟨_, self, ⟨H, cs, rfl, ⟨gf.fn, gf.nt, gf.tm.over d hd', gf.todo, gf.defers, gf.mode, gf.deferred, gf.round⟩, gc, R, B⟩⟩, by rw [bG]; rfl⟩
   ·cases e
  ·exact zL K R B hm gf gc rfl e hev (ik gf.tm hg) pre
 ·rename_i hg
  obtain ⟨f', w1, w2, w3, l, w4⟩ := fV R B (outer := outer) (S0 := S0) gf gc (.tuple .nil) e hev
  refine ⟨⟨_, pre _ (by simp only [iW, ik gf.tm hg, w1]), w2⟩, ?_⟩
  rw [w3, w4, bd, bG]; rfl
 ·rename_i d e0 want hg
  split at e
  ·rename_i c ch'
   obtain ⟨g1, g2⟩ := wF gf.tm hg
   have gf' : e0.b ρ = c -> FR C.P h H ρ { fr with tm := fr.tm.set d (.bool (.bl c)) } f := fun hc =>
    ⟨gf.fn, gf.nt, gf.tm.over d (by rw [g2, hc]; exact .bool (.bl c)), gf.todo, gf.defers, gf.mode, gf.deferred, gf.round⟩
   have hcond : (cond c e0 e0.not').b ρ = true -> e0.b ρ = c := by
    intro hq
    cases c
    ·simp only [cond_false, not'_b, Bool.not_eq_true'] at hq; exact hq
    ·exact hq
   cases hcw : (c == want) with
   | true =>
    rw [hcw] at e
    simp only [cond_true] at e
    have hq : (cond c e0 e0.not').b ρ = true := by
     have : ∃ l, o.ev = [Ev.ask (cond c e0 e0.not')] ++ l := by
      unfold DY at e
      obtain ⟨l, hl⟩ := zM e
      exact ⟨_, by rw [hl, List.append_assoc]⟩
     obtain ⟨l, hl⟩ := this
     rw [hl, ag.append] at hev
     exact hev.1.1
    have hc := hcond hq
    exact zL (fr := { fr with tm := fr.tm.set d (.bool (.bl c)) }) K R B hm (gf' hc) gc rfl e hev (by rw [g1, hc, hcw]) pre
   | false =>
    rw [hcw] at e
    simp only [cond_false] at e
    have hq : (cond c e0 e0.not').b ρ = true := by
     obtain ⟨l, hl⟩ := fW e
     rw [hl, ag.append] at hev
     exact hev.1.1
    have hc := hcond hq
    obtain ⟨f', w1, w2, w3, l, w4⟩ := fV (fr := { fr with tm := fr.tm.set d (.bool (.bl c)) }) R B (outer := outer) (S0 := S0) (gf' hc) gc (.tuple .nil) e hev
    refine ⟨⟨_, pre _ (by simp only [iW, g1, hc, hcw, w1]), w2⟩, ?_⟩
    rw [w3, w4, bd, bG]; rfl
  ·cases e
 ·cases e
theorem qf (R : HR C.P h0 h H ρ sh) (B : rj h0 S0 H) {fr : aT} {f : ak} {callers : List aT} {cs : List ak} {v : SV} {u : AV} {ch : List Bool} {o : Out} {m : bc} (hd : f.deferred = fr.deferred)
  (gc : we C.P h H ρ callers cs) (gv : SD C.P h H ρ v u) (e : mn C fr callers v sh ch = some o) (hev : ag C.P ρ sh.nv o.ev) (pre : ∀ m', dp C.P f (cs ++ outer) u h = some m' -> bP C.P m m') : eS C h0 S0 outer ρ sh.nv m o := by
 unfold mn at e
 cases gc with
 | nil => cases e
 | cons g1 g2 =>
  rename_i c y rest ys
  simp only at e
  have gm := g1.mode
  cases hdf : fr.deferred with
  | true =>
   rw [hdf] at e hd
   simp only [cond_true] at e
   split at e
   ·cases e
   ·rename_i hcm
    cases e
    rw [hcm] at gm
    have hym := gm.nZ
    refine ⟨⟨⟨y, ys ++ outer, h⟩, pre _ ?_, ⟨H, ys, rfl, g1, g2, R, B⟩⟩, rfl⟩
    simp only [dp, List.cons_append, hd, cond_true, hym]
  | false =>
   rw [hdf] at e hd
   simp only [cond_false] at e
   split at e
   ·rename_i hcm
    rw [hcm] at gm
    have hym := gm.rq
    obtain ⟨f', w1, w2, w3, l, w4⟩ := fV R B (outer := outer) (S0 := S0) g1 g2 gv e hev
    refine ⟨⟨_, pre _ ?_, w2⟩, ?_⟩
    ·simp only [dp, List.cons_append, hd, cond_false, hym, w1]
    ·rw [w3, w4, bd, bG]; rfl
   ·cases e
theorem kN.with {P : Program} {r : mg} {r' : fS} (g : kN P h H ρ r r') (s : LoopState) (p : Option Code) : kN P h H ρ { r with state := s, pending := p } { r' with state := s, pending := p } :=
 ⟨rfl, rfl, g.fn, g.nt, g.tm, g.params, g.assign, g.body, g.defers⟩
theorem kN.C6 {P : Program} {r : mg} {r' : fS} (g : kN P h H ρ r r') (s : LoopState) : kN P h H ρ { r with state := s } { r' with state := s } :=
 ⟨rfl, g.pending, g.fn, g.nt, g.tm, g.params, g.assign, g.body, g.defers⟩
theorem kg {P : Program} (R : HR P h0 h H ρ sh) {l a : Nat} {o0 o : b5} {ob : fO} (hg : sh.get l = some o0) (ho0 : own o0 = true) (ho1 : own o = true) (hn : H.ν l = some (.obj a)) (ho : ∀ H', aM h H (h.set a ob) H' -> H'.ν l = some (.obj a) -> db P (h.set a ob) H' ρ l o) (hnt : bf o = false := by rfl) :
  ∃ H', aM h H (h.set a ob) H' /\ HR P h0 (h.set a ob) H' ρ (sh.set l o) /\ aS h0 H H' := by
 obtain ⟨x1, R1⟩ := R.gH (o := o) (ob := ob) (acs := []) (sh' := sh.set l o) hg ho0 ho1 hn rfl rfl rfl (.inl ⟨rfl, rfl⟩) (fun x => ho _ x hn) hnt
 exact ⟨_, x1, R1, fun a ha => .inl ha⟩
theorem ng (K : cx C.P) (R : HR C.P h0 h H ρ sh) (B : rj h0 S0 H) {fr : aT} {f : ak} {callers : List aT} {cs : List ak} {jump : Option Code} {ch : List Bool} {o : Out} {m : bc}
  (gf : FR C.P h H ρ fr f) (gc : we C.P h H ρ callers cs) (e : rZ C fr callers sh jump ch = some o) (hev : ag C.P ρ sh.nv o.ev) (pre : ∀ m', fF C.P f (cs ++ outer) h jump = some m' -> bP C.P m m') : eS C h0 S0 outer ρ sh.nv m o := by
 unfold rZ at e
 have gr := gf.round
 generalize hfr : f.roundOf = fro at gr
 split at e
 ·rename_i hro
  rw [hro] at gr
  cases gr
  have done : ∀ {x : Option Out}, x = some { m := { fr := { fr with mode := .returning }, callers, h := sh }, ev := [], ch } -> some o = x -> (∀ m', fF C.P f (cs ++ outer) h jump = some m' -> bP C.P m m') -> fF C.P f (cs ++ outer) h jump = some { fr := { f with mode := .returning }, callers := cs ++ outer, h } -> eS C h0 S0 outer ρ sh.nv m o := by
   intro x h1 h2 h3 h4
   rw [h1] at h2; cases h2
   exact ⟨⟨_, h3 _ h4, ⟨H, cs, rfl, ⟨gf.fn, gf.nt, gf.tm, gf.todo, gf.defers, trivial, gf.deferred, gf.round⟩, gc, R, B⟩⟩, rfl⟩
  split at e
  ·exact done rfl e.symm pre (by simp only [fF, hfr])
  ·exact done rfl e.symm pre (by simp only [fF, hfr])
  ·cases e
 ·rename_i l hro
  rw [hro] at gr
  cases gr with
  | some hn =>
   rename_i a
   split at e
   ·rename_i r hr
    obtain ⟨r', k1, k2, k3, k4⟩ := fw R hn hr
    cases hdf : fr.deferred with
    | true => rw [hdf] at e; cases e
    | false =>
     rw [hdf] at e
     simp only [cond_false] at e
     obtain ⟨H', x1, R1, s1⟩ := kg R (o := .loop { r with state := if jump.isNone then .ready else .done, pending := jump }) (ob := .loop { r' with state := if jump.isNone then .ready else .done, pending := jump }) k3 rfl rfl hn
      (fun H' x hn' => .loop hn' (by rw [ah.aP]; simp) ((k2.with _ _).mono x))
     have hd : f.deferred = false := by rw [gf.deferred, hdf]
     refine qf (f := f) (u := .bool jump.isNone) R1 (B.grow s1) (by rw [hd, hdf]) (gc.mono x1) (.bool (.bl jump.isNone)) e hev fun m' hm' => pre _ ?_
     simp only [fF, hfr, k1, hd, cond_false]
     exact hm'
   ·cases e
theorem qJ {id : Nat} : ∀ {k : List bu} {ka : List bu}, rh H k ka -> (match cS id k with | some r => ∃ ra, cS id ka = some ra /\ rh H r ra | none => cS id ka = none)
 | [], _, .nil => rfl
 | x :: k, _, .cons (y := y) (ys := ys) g1 g2 => by
  have ih := qJ (id := id) g2
  cases g1 with
  | same _ hx =>
   cases x with
   | inBlock n =>
    simp only [cS]
    cases hb : Nat.beq n id with
    | true => simp only [cond_true]; exact ⟨_, rfl, g2⟩
    | false => simp only [cond_false]; exact ih
   | _ => simp only [cS]; exact ih
  | inRangeFunc q => simp only [cS]; exact ih
  | endRangeFunc q => simp only [cS]; exact ih
theorem An (K : cx C.P) (R : HR C.P h0 h H ρ sh) (B : rj h0 S0 H) {fr : aT} {f : ak} {callers : List aT} {cs : List ak} {ch : List Bool} {o : Out} {m : bc} (hm : fr.mode = .run)
  (gf : FR C.P h H ρ fr f) (gc : we C.P h H ρ callers cs)
  (e : Bl C fr callers sh ch = some o) (hev : ag C.P ρ sh.nv o.ev) (self : bP C.P m ⟨f, cs ++ outer, h⟩) (pre : ∀ m', exec C.P C.pl f (cs ++ outer) h = some m' -> bP C.P m m') : eS C h0 S0 outer ρ sh.nv m o := by
 have gt := gf.todo
 generalize hft : f.todo = ft at gt
 have to : ∀ {todo todo' : List bu} {o : Out}, rh H todo todo' -> some { m := { fr := { fr with todo }, callers, h := sh }, ev := [], ch } = some o -> exec C.P C.pl f (cs ++ outer) h = some { fr := { f with todo := todo' }, callers := cs ++ outer, h } -> eS C h0 S0 outer ρ sh.nv m o := by
  intro todo todo' o gi e ha
  cases e
  exact ⟨⟨_, pre _ ha, ⟨H, cs, rfl, ⟨gf.fn, gf.nt, gf.tm, gi, gf.defers, gf.mode, gf.deferred, gf.round⟩, gc, R, B⟩⟩, rfl⟩
 unfold Bl at e
 simp only at e
 split at e
 ·-- nothing left
  rename_i htd
  rw [htd] at gt
  cases gt
  exact ng K R B gf gc e hev fun m' hm' => pre _ (by simp only [exec, hft]; exact hm')
 ·rename_i c k htd
  rw [htd] at gt
  cases gt with
  | cons g1 g2 =>
  rename_i y ys
  have hy : y = .code c := by cases g1; rfl
  subst hy
  split at e
  ·exact ng K R B gf gc e hev fun m' hm' => pre _ (by simp only [exec, hft]; exact hm')
  ·exact to g2 e (by simp only [exec, hft])
  ·exact to g2 e (by simp only [exec, hft])
  ·exact to (.cons (.plain rfl) (.cons (.plain rfl) g2)) e (by simp only [exec, hft])
  ·rename_i c thn bx
   have gcv := cM gf.tm c
   split at e
   ·rename_i b hq
    rw [hq] at gcv
    exact to (.cons (.plain rfl) g2) e (by simp only [exec, hft, gcv.toBool]; rfl)
   ·rename_i e0 hne hq
    rw [hq] at gcv
    split at e
    ·rename_i b ch'
     cases e
     obtain ⟨hb, _⟩ := hev
     have hb' : e0.b ρ = b := by
      cases b
      ·simp only [cond_false, not'_b, Bool.not_eq_true'] at hb; exact hb
      ·exact hb
     refine ⟨⟨{ fr := { f with todo := .code (cond b thn bx) :: ys }, callers := cs ++ outer, h }, pre _ ?_, ⟨H, cs, rfl, ⟨gf.fn, gf.nt, gf.tm, .cons (.plain rfl) g2, gf.defers, gf.mode, gf.deferred, gf.round⟩, gc, R, B⟩⟩, rfl⟩
     simp only [exec, hft, gcv.toBool, hb']
    ·cases e
   ·cases e
  ·exact to (.cons (.plain rfl) (.cons (.plain rfl) g2)) e (by simp only [exec, hft])
  ·exact to (.cons (.plain rfl) (.cons (.plain rfl) g2)) e (by simp only [exec, hft])
  ·exact to (.cons (.plain rfl) (.cons (.plain rfl) g2)) e (by simp only [exec, hft])
  ·rename_i id
   have ha := qJ (id := id) g2
   split at e
   ·rename_i k' hk
    rw [hk] at ha
    obtain ⟨ra, h1, h2⟩ := ha
    exact to h2 e (by simp only [exec, hft, h1])
   ·rename_i hk
    rw [hk] at ha
    simp only at ha
    exact ng K R B gf gc e hev fun m' hm' => pre _ (by simp only [exec, hft, ha]; exact hm')
  ·exact to (.cons (.plain rfl) g2) e (by simp only [exec, hft])
  ·rename_i id ops
   split at e
   ·rename_i l hl
    split at e
    ·rename_i p hp
     obtain ⟨hok, e⟩ := aj e
     exact to (.cons (.plain rfl) g2) e (by simp only [exec, hft, gf.fn, hl, hp, hok, cond_true])
    ·cases e
   ·cases e
  ·-- a loop over a function
   rename_i fo params assign body
   have gr := gf.round
   generalize hfr : f.roundOf = fro at gr
   have newLoop : ∀ {h : ah} {H : Hid} {sh : ae} {d a : Nat}, HR C.P h0 h H ρ sh -> FR C.P h H ρ fr f -> H.ν d = some (.obj a) ->
     ∃ H', aM h H (h.new (.loop { state := .ready, pending := none, fn := f.fn, nt := f.nt, tm := f.tm, params, assign, body, defers := a })) H' /\ HR C.P h0 (h.new (.loop { state := .ready, pending := none, fn := f.fn, nt := f.nt, tm := f.tm, params, assign, body, defers := a })) H' ρ (sh.new (.loop { state := .ready, pending := none, fn := fr.fn, nt := fr.nt, tm := fr.tm, params, assign, body, defers := d })) /\ H'.ν sh.next = some (.obj h.next) /\ aS h0 H H' := by
    intro h H sh d a R gf hd
    obtain ⟨x1, R1⟩ := R.new (o := .loop { state := .ready, pending := none, fn := fr.fn, nt := fr.nt, tm := fr.tm, params, assign, body, defers := d }) (ob := .loop { state := .ready, pending := none, fn := f.fn, nt := f.nt, tm := f.tm, params, assign, body, defers := a }) (l := .obj h.next) (acs := []) rfl
     (fun x => .loop (a := h.next) (y := { state := .ready, pending := none, fn := f.fn, nt := f.nt, tm := f.tm, params, assign, body, defers := a }) (by simp [Hid.new]) (by rw [ah.aQ]; simp) ⟨rfl, rfl, gf.fn, gf.nt, gf.tm.mono x, rfl, rfl, rfl, x.nu _ _ hd⟩)
    exact ⟨_, x1, R1, by simp [Hid.new], fun a ha => .inl ha⟩
   split at e
   ·rename_i hro
    rw [hro] at gr
    cases gr
    split at e
    ·rename_i n hn
     obtain ⟨x1, R1⟩ := R.new (o := .deferred (some [])) (ob := .deferred (some [])) (l := .obj h.next) (acs := []) rfl
      (fun x => .deferred (a := h.next) (y := some []) (by simp [Hid.new]) (by rw [ah.aQ]; simp) .nil)
     have hd : (H.new sh.next (.obj h.next) []).ν sh.next = some (.obj h.next) := by simp [Hid.new]
     obtain ⟨H2, x2, R2, n2, s2⟩ := newLoop R1 (gf.mono x1) hd
     have xx := x1.trans x2
     have gy : ∀ h' : ah, cB C.P h' H2 ρ [.aF (sh.new (.deferred (some []))).next] [.aF (h.new (.deferred (some []))).next] := fun _ => .cons (.aF n2) .nil
     obtain ⟨an, a1, a2⟩ := pb (cM (gf.mono xx).tm fo) (gy _) hn
     refine nq K R2 ((B.grow (fun a ha => Or.inl ha)).grow s2) (by exact hm) (f := { f with todo := .inRangeFunc (h.new (.deferred (some []))).next :: ys, defers := { yj := .collected h.next, args := [] } :: f.defers }) ?_ (gc.mono xx) a2 (gy _) sh.nv rfl e hev fun m' hm' => pre _ ?_
     ·have gm := gf.mono xx
      exact ⟨gm.fn, gm.nt, gm.tm, .cons (.inRangeFunc n2) (g2.mono xx), .cons (.collected (x2.nu _ _ hd) .nil) gm.defers, gm.mode, gm.deferred, gm.round⟩
     ·simp only [exec, hft, hfr, a1]
      simp only [hfr] at hm'
      exact hm'
    ·cases e
   ·rename_i outr hro
    rw [hro] at gr
    cases gr with
    | some hq =>
    split at e
    ·rename_i r hr
     obtain ⟨r', k1, k2, k3, k4⟩ := fw R hq hr
     split at e
     ·rename_i n hn
      obtain ⟨H2, x2, R2, n2, s2⟩ := newLoop R gf k2.defers
      have gy : ∀ h' : ah, cB C.P h' H2 ρ [.aF sh.next] [.aF h.next] := fun _ => .cons (.aF n2) .nil
      obtain ⟨an, a1, a2⟩ := pb (cM (gf.mono x2).tm fo) (gy _) hn
      refine nq K R2 (B.grow s2) (by exact hm) (f := { f with todo := .inRangeFunc h.next :: ys }) ?_ (gc.mono x2) a2 (gy _) sh.nv rfl e hev fun m' hm' => pre _ ?_
      ·have gm := gf.mono x2
       exact ⟨gm.fn, gm.nt, gm.tm, .cons (.inRangeFunc n2) (g2.mono x2), gm.defers, gm.mode, gm.deferred, gm.round⟩
      ·simp only [exec, hft, hfr, k1, a1]
       simp only [hfr] at hm'
       exact hm'
     ·cases e
    ·cases e
  ·cases e
 ·rename_i id k htd
  rw [htd] at gt
  cases gt with | cons g1 g2 =>
  have hy := g1
  cases hy
  exact to g2 e (by simp only [exec, hft])
 ·rename_i id k htd
  rw [htd] at gt
  cases gt with | cons g1 g2 =>
  cases g1
  exact to g2 e (by simp only [exec, hft])
 ·rename_i body k htd
  rw [htd] at gt
  cases gt with | cons g1 g2 =>
  cases g1
  exact to (.cons (.plain rfl) (.cons (.plain rfl) g2)) e (by simp only [exec, hft])
 ·rename_i ops i k htd
  rw [htd] at gt
  cases gt with | cons g1 g2 =>
  have := g1.kP; subst this
  exact to g2 e (by simp only [exec, hft])
 ·rename_i ops i op rest k htd
  rw [htd] at gt
  cases gt with | cons g1 g2 =>
  have := g1.kP; subst this
  exact tZ K R B hm gf gc e hev self fun m' hm' => pre _ (by simp only [exec, hft]; exact hm')
 ·rename_i ops k htd
  rw [htd] at gt
  cases gt with | cons g1 g2 =>
  have := g1.cU; subst this
  exact to g2 e (by simp only [exec, hft])
 ·rename_i ops i chk rest k htd
  rw [htd] at gt
  cases gt with | cons g1 g2 =>
  have := g1.cU; subst this
  split at e
  ·rename_i op hop
   exact tZ K R B hm gf gc e hev self fun m' hm' => pre _ (by simp only [exec, hft, hop]; exact hm')
  ·cases e
 ·cases e
 ·rename_i k htd
  rw [htd] at gt
  cases gt with | cons g1 g2 =>
  rename_i y0 ys
  cases g1
  have gr := gf.round
  generalize hfr : f.roundOf = fro at gr
  split at e
  ·rename_i l hro
   rw [hro] at gr
   cases gr with
   | some hq =>
   rename_i a
   split at e
   ·rename_i r hr
    obtain ⟨r', k1, k2, k3, k4⟩ := fw R hq hr
    split at e
    ·rename_i hst
     cases e
     obtain ⟨H', x1, R1, s1⟩ := kg R (o := .loop { r with state := .busy }) (ob := .loop { r' with state := .busy }) k3 rfl rfl hq
      (fun H' x hn' => .loop hn' (by rw [ah.aP]; simp) ((k2.C6 _).mono x))
     have gm := gf.mono x1
     refine ⟨⟨{ fr := { f with todo := ys }, callers := cs ++ outer, h := h.set a (.loop { r' with state := .busy }) }, pre _ ?_, ⟨H', cs, rfl, ⟨gm.fn, gm.nt, gm.tm, g2.mono x1, gm.defers, gm.mode, gm.deferred, gm.round⟩, gc.mono x1, R1, B.grow s1⟩⟩, rfl⟩
     simp only [exec, hft, hfr, k1, k2.state, hst]
    ·cases e
   ·cases e
  ·cases e
 ·rename_i l k htd
  rw [htd] at gt
  cases gt with | cons g1 g2 =>
  rename_i ys
  cases g1 with
  | same _ q => exact absurd rfl (q l).2
  | endRangeFunc hq =>
  rename_i a
  split at e
  ·rename_i r hr
   obtain ⟨r', k1, k2, k3, k4⟩ := fw R hq hr
   split at e
   ·cases e
   ·rename_i hst
    cases e
    obtain ⟨H', x1, R1, s1⟩ := kg R (o := .loop { r with state := .exhausted }) (ob := .loop { r' with state := .exhausted }) k3 rfl rfl hq
     (fun H' x hn' => .loop hn' (by rw [ah.aP]; simp) ((k2.C6 _).mono x))
    have gm := gf.mono x1
    refine ⟨⟨{ fr := { f with todo := match r'.pending with | some c => .code c :: ys | none => ys }, callers := cs ++ outer, h := h.set a (.loop { r' with state := .exhausted }) }, pre _ ?_, ⟨H', cs, rfl, ⟨gm.fn, gm.nt, gm.tm, ?_, gm.defers, gm.mode, gm.deferred, gm.round⟩, gc.mono x1, R1, B.grow s1⟩⟩, rfl⟩
    ·have : r'.state ≠ .busy := by rw [k2.state]; exact hst
     simp only [exec, hft, k1]
     cases hs : r'.state <;> first | rfl | exact absurd hs this
    ·rw [k2.pending]
     cases r.pending with
     | none => exact g2.mono x1
     | some c => exact .cons (.plain rfl) (g2.mono x1)
  ·cases e
end
end Go.Sym
namespace Go.Sym
open Go Go.a9
section
variable {C : dj} {h : ah} {H : Hid} {ρ : Env} {h0 : ah} {S0 : Nat -> Prop} {outer : List ak} {sh : ae}
theorem jv.append {P : Program} {a b : List oR} {c d : List iZ} (g : jv P h H ρ a c) (k : jv P h H ρ b d) : jv P h H ρ (a ++ b) (c ++ d) := by
 induction g with
 | nil => exact k
 | cons x _ ih => exact .cons x ih
theorem wz (K : cx C.P) (R : HR C.P h0 h H ρ sh) (B : rj h0 S0 H) {fr : aT} {f : ak} {callers : List aT} {cs : List ak} {ch : List Bool} {o : Out} {m : bc} (hm : fr.mode = .returning)
  (gf : FR C.P h H ρ fr f) (gc : we C.P h H ρ callers cs)
  (e : u6 C fr callers sh ch = some o) (hev : ag C.P ρ sh.nv o.ev) (pre : ∀ m', a9.unwind C.P f (cs ++ outer) h = some m' -> bP C.P m m') : eS C h0 S0 outer ρ sh.nv m o := by
 have gd := gf.defers
 generalize hfd : f.defers = fd at gd
 have hfm : f.mode = .returning := by have := gf.mode; rw [hm] at this; exact this.nZ
 unfold u6 at e
 split at e
 ·rename_i r as_ ds hds
  rw [hds] at gd
  cases gd with
  | cons g1 g2 =>
   cases g1 with
   | collected hr gargs =>
    rename_i us a u
    split at e
    ·rename_i calls hg
     cases e
     have ho := R.bj _ _ hg
     cases ho with
     | deferred e1 e2 e3 =>
      rename_i y a'
      rw [hr] at e1; cases e1
      cases y with
      | none => exact e3.elim
      | some calls' =>
       simp only at e3
       obtain ⟨H', x1, R1, s1⟩ := kg R (o := .deferred none) (ob := .deferred none) hg rfl rfl hr
        (fun H' x hn' => .deferred (y := none) hn' (by rw [ah.aP]; simp) trivial)
       have gm := gf.mono x1
       refine ⟨⟨{ fr := { f with defers := calls' ++ us }, callers := cs ++ outer, h := h.set a (.deferred none) }, pre _ ?_, ⟨H', cs, rfl, ⟨gm.fn, gm.nt, gm.tm, gm.todo, (e3.append g2).mono x1, gm.mode, gm.deferred, gm.round⟩, gc.mono x1, R1, B.grow s1⟩⟩, rfl⟩
       unfold a9.unwind
       simp only [hfd, e2]
    ·cases e
 ·rename_i fn as_ ds hds
  rw [hds] at gd
  cases gd with
  | cons g1 g2 =>
   cases g1 with
   | func gargs =>
    rename_i us u
    split at e
    ·rename_i g hg
     cases e
     obtain ⟨f', w1, w2⟩ := fZ gargs hg
     refine ⟨⟨{ fr := f', callers := { f with defers := us } :: (cs ++ outer), h }, pre _ ?_, ⟨H, { f with defers := us } :: cs, rfl, w2, .cons ⟨gf.fn, gf.nt, gf.tm, gf.todo, g2, gf.mode, gf.deferred, gf.round⟩ gc, R, B⟩⟩, rfl⟩
     unfold a9.unwind
     simp only [hfd, w1]
    ·cases e
 ·rename_i hds
  rw [hds] at gd
  cases gd
  split at e
  ·rename_i fn hfn
   have hfn' : C.P.funcs[f.fn]? = some fn := by rw [gf.fn]; exact hfn
   have fin : ∀ {vs : List SV} {c : List E} {v : SV} {us : List AV}, bo ρ c -> bq C.P h f.tm fn.results.toList = some us -> SD C.P h H ρ v (packed us) -> (mn C fr callers v sh ch).map (fun o => { o with ev := asks c ++ o.ev }) = some o -> eS C h0 S0 outer ρ sh.nv m o := by
    intro vs c v us hc hr gv e
    simp only [Option.map_eq_some_iff] at e
    obtain ⟨o', e1, rfl⟩ := e
    simp only at hev
    rw [ag.append, bG] at hev
    obtain ⟨p1, p2⟩ := qf R B (outer := outer) (S0 := S0) (m := m) gf.deferred gc gv e1 (by simpa using hev.2) fun m' hm' => pre _ (by
     unfold a9.unwind
     simp only [hfd, hfm, hfn', hr]
     cases us with
     | nil => exact hm'
     | cons a b => cases b <;> exact hm')
    refine ⟨p1, ?_⟩
    simp only [bd, bG]
    omega
   split at e
   ·rename_i v c hr
    have hc : bo ρ c := by
     simp only [Option.map_eq_some_iff] at e
     obtain ⟨o', e1, rfl⟩ := e
     simp only at hev
     rw [ag.append, ag.asks] at hev
     exact hev.1
    obtain ⟨us, u1, u2⟩ := en R gf.tm hr hc
    cases u2 with
    | cons a b => cases b; exact fin (vs := [v]) hc u1 a e
   ·rename_i vs c hne hr
    have hc : bo ρ c := by
     simp only [Option.map_eq_some_iff] at e
     obtain ⟨o', e1, rfl⟩ := e
     simp only at hev
     rw [ag.append, ag.asks] at hev
     exact hev.1
    obtain ⟨us, u1, u2⟩ := en R gf.tm hr hc
    refine fin (vs := vs) hc u1 ?_ e
    cases u2 with
    | nil => exact .tuple .nil
    | cons a b =>
     cases b with
     | nil => exact (hne _ rfl).elim
     | cons c d => exact .tuple (.cons a (.cons c d))
   ·cases e
  ·cases e
theorem Ai (K : cx C.P) {s : au} {m : bc} {ch : List Bool} {o : Out} (g : MR C.P h0 S0 outer ρ s m) (e : wB C s ch = some o) (hev : ag C.P ρ s.h.nv o.ev) : eS C h0 S0 outer ρ s.h.nv m o := by
 obtain ⟨H, cs, h1, h2, h3, h4, h5⟩ := g
 obtain ⟨f, callers, h⟩ := m
 simp only at h1 h2 h3 h4
 subst h1
 unfold wB at e
 cases hm : s.fr.mode with
 | run =>
  rw [hm] at e
  refine An K h4 h5 hm h2 h3 e hev (bP.refl _) fun m' hm' => kr K (pl := C.pl) ?_
  have : f.mode = .run := by have := h2.mode; rw [hm] at this; exact this.rq
  unfold kM
  simp only [this]
  exact hm'
 | returning =>
  rw [hm] at e
  refine wz K h4 h5 hm h2 h3 e hev fun m' hm' => kr K (pl := C.pl) ?_
  have : f.mode = .returning := by have := h2.mode; rw [hm] at this; exact this.nZ
  unfold kM
  simp only [this]
  exact hm'
theorem rU : ∀ (n : Nat) (s : au) (ch : List Bool) (a : List Ev), oW C n s ch a = (oW C n s ch []).map fun r => (r.1, a ++ r.2.1, r.2.2)
 | 0, s, ch, a => by simp [oW]
 | n + 1, s, ch, a => by
  unfold oW
  cases ho : wB C s ch with
  | none => rfl
  | some o =>
   simp only [List.nil_append]
   rw [rU n o.m o.ch (a ++ o.ev), rU n o.m o.ch o.ev]
   cases oW C n o.m o.ch [] with
   | none => rfl
   | some r => simp
theorem Cz {n : Nat} {s z : au} {ch ch' : List Bool} {ev ev' : List Ev} (e : oW C n s ch ev = some (z, ev', ch')) : ∃ l, ev' = ev ++ l /\ oW C n s ch [] = some (z, l, ch') := by
 rw [rU] at e
 simp only [Option.map_eq_some_iff] at e
 obtain ⟨⟨z', l, c'⟩, e1, e2⟩ := e
 cases e2
 exact ⟨l, rfl, e1⟩
theorem kU (K : cx C.P) : ∀ (n : Nat) {s z : au} {m : bc} {ch ch' : List Bool} {ev : List Ev}, MR C.P h0 S0 outer ρ s m -> oW C n s ch [] = some (z, ev, ch') -> ag C.P ρ s.h.nv ev -> ∃ m', bP C.P m m' /\ MR C.P h0 S0 outer ρ z m'
 | 0, s, z, m, ch, ch', ev, g, e, hev => by cases e; exact ⟨m, bP.refl m, g⟩
 | n + 1, s, z, m, ch, ch', ev, g, e, hev => by
  unfold oW at e
  cases ho : wB C s ch with
  | none => rw [ho] at e; cases e
  | some o =>
   rw [ho] at e
   simp only [List.nil_append] at e
   obtain ⟨l, h1, h2⟩ := Cz e
   rw [h1, ag.append] at hev
   obtain ⟨⟨m1, k1, k2⟩, k3⟩ := Ai K g ho hev.1
   obtain ⟨m2, k4, k5⟩ := kU K n k2 h2 (by rw [k3]; exact hev.2)
   exact ⟨m2, k1.trans k4, k5⟩
end
end Go.Sym
namespace Go.Sym
open Go Go.a9
theorem AM {α : Type} (x : Option α) (a b c d : Tr α) : (Tr.node x a b c d).get 0 = x := rfl
theorem AL {α : Type} (x : Option α) (a b c d : Tr α) (k : Nat) : (Tr.node x a b c d).get (k + 1) = match d4 (k % 4) with | .a => a.get (k / 4) | .b => b.get (k / 4) | .c => c.get (k / 4) | .d => d.get (k / 4) := by
 unfold Tr.get
 rw [show Nat.succ (k + 1) = (k + 1) + 1 from rfl, dM]
 rw [iF α (k + 1) (k / 4) (Nat.succ (k / 4)) (by omega) (by omega)]
 cases d4 (k % 4) <;> rfl
theorem l9 {α : Type} : ∀ {f : Nat -> α -> Bool} {t : Tr α}, xW f t = true -> ∀ n v, t.get n = some v -> f n v = true := by
 intro f t
 induction t generalizing f with
 | nil => intro _ n v e; rw [Tr.get_nil] at e; cases e
 | node x a b c d iha ihb ihc ihd =>
  intro h n v e
  simp only [xW, Bool.and_eq_true] at h
  obtain ⟨⟨⟨⟨h0, ha⟩, hb⟩, hc⟩, hd⟩ := h
  cases n with
  | zero => rw [AM] at e; subst e; exact h0
  | succ k =>
   rw [AL] at e
   have hm : k % 4 = 0 \/ k % 4 = 1 \/ k % 4 = 2 \/ k % 4 = 3 := by omega
   have hk : k = 4 * (k / 4) + k % 4 := by omega
   rcases hm with q | q | q | q <;> rw [q] at e hk
   ·have := iha ha (k / 4) v e; rw [show k + 1 = 4 * (k / 4) + 1 from by omega]; exact this
   ·have := ihb hb (k / 4) v e; rw [show k + 1 = 4 * (k / 4) + 2 from by omega]; exact this
   ·have := ihc hc (k / 4) v e; rw [show k + 1 = 4 * (k / 4) + 3 from by omega]; exact this
   ·have := ihd hd (k / 4) v e; rw [show k + 1 = 4 * (k / 4) + 4 from by omega]; exact this
section
variable {P : Program} {h : ah} {H H' : Hid} {ρ ρ' : Env} {h0 : ah} {sh : ae} {σ : Sub} {β : j8}
theorem vI {a b : E} (hρ : (σ.ev ρ).le ρ') (e : insts .i σ a b = true) : a.i ρ' = b.i ρ := by
 unfold insts at e
 simp only [Bool.and_eq_true, decide_eq_true_eq] at e
 rw [(vJ hρ a).1 e.1, e.2]
theorem CP {a b : E} (hρ : (σ.ev ρ).le ρ') (e : insts .b σ a b = true) : a.b ρ' = b.b ρ := by
 unfold insts at e
 simp only [Bool.and_eq_true, decide_eq_true_eq] at e
 rw [(vJ hρ a).2.1 e.1, e.2]
theorem jo {a b : E} (hρ : (σ.ev ρ).le ρ') (e : insts .v σ a b = true) : a.v ρ' = b.v ρ := by
 unfold insts at e
 simp only [Bool.and_eq_true, decide_eq_true_eq] at e
 rw [(vJ hρ a).2.2 e.1, e.2]
structure Names (h : ah) (H H' : Hid) (ρ : Env) (σ : Sub) (β : j8) : Prop where
 nu : ∀ a c, b9 a β = some (some c) -> H'.ν a = H.ν c
 ED : ∀ a, b9 a β = some none -> H'.ν a = some .nil
 ka : ∀ (n : Nat) p av, σ.p[n]? = some p -> fq h H ρ p = some av -> H'.κ n = [av]
 S : H'.S = H.S
theorem xE (R : HR P h0 h H ρ sh) (N : Names h H H' ρ σ β) (hρ : (σ.ev ρ).le ρ') : ∀ {f : Nat} {x y : SV} {u : AV}, fits P sh σ β f x y = true -> SD P h H ρ y u -> SD P h H' ρ' x u := by
 intro f
 induction f with
 | zero => intro x y u e; exact (Bool.false_ne_true e).elim
 | succ f ih =>
  intro x y u e g
  have lists : ∀ {xs ys : List SV} {us : List AV}, cO (fits P sh σ β f) xs ys = true -> cB P h H ρ ys us -> cB P h H' ρ' xs us := by
   intro xs
   induction xs with
   | nil => intro ys us e g; cases ys <;> simp [cO] at e; cases g; exact .nil
   | cons x xs ihx =>
    intro ys us e g
    cases ys with
    | nil => simp [cO] at e
    | cons y ys =>
     simp only [cO, Bool.and_eq_true] at e
     cases g with | cons g1 g2 => exact .cons (ih e.1 g1) (ihx e.2 g2)
  unfold fits at e
  split at e
  ·cases g; rw [<- CP hρ e]; exact .bool _
  ·simp only [Bool.and_eq_true, decide_eq_true_eq] at e
   obtain ⟨rfl, e⟩ := e
   cases g; rw [<- vI hρ e]; exact .int _ _
  ·cases g with | str q => exact .str (by rw [jo hρ e]; exact q)
  ·cases g; exact .fe
  ·simp only [Bool.and_eq_true, decide_eq_true_eq] at e
   have := aq e.2; subst this
   cases g with | addr q => exact .addr (by rw [N.nu _ _ e.1]; exact q)
  ·simp only [Bool.and_eq_true, decide_eq_true_eq] at e
   have := aq e.2; subst this
   cases g with | bI q => rw [<- vI hρ e.1.2]; exact .bI (by rw [N.nu _ _ e.1.1]; exact q)
  ·cases g; exact .aV
  ·simp only [decide_eq_true_eq] at e
   cases g with
   | cu q => exact .cu (by rw [N.nu _ _ e]; exact q)
   | view q => exact .view (by rw [N.nu _ _ e]; exact q)
  ·simp only [decide_eq_true_eq] at e
   cases g; exact .cu (N.ED _ e)
  ·rename_i y t e0 n
   split at e
   ·simp only [Bool.and_eq_true, decide_eq_true_eq] at e
    obtain ⟨⟨e1, e2⟩, e3⟩ := e
    cases g
    split at e3
    ·rename_i sz hz
     refine .pure (by simp [fq, N.ka n .nil .aV e2 rfl]) hz (by omega) (.inl ⟨?_, rfl⟩)
     rw [jo hρ e1]; rfl
    ·cases e3
   ·split at e
    ·rename_i t' e' p' hp
     simp only [Bool.and_eq_true, decide_eq_true_eq] at e
     obtain ⟨⟨e1, e2⟩, e3⟩ := e
     have := aq e1; subst this
     have g' := kh R g hp
     cases g' with
     | pure q1 q2 q3 q4 =>
      refine .pure (by simp [fq, N.ka n p' u e3 q1]) q2 q3 ?_
      rw [N.S, jo hρ e2]; exact q4
    ·cases e
  ·cases g; exact .fK
  ·cases g; exact .fB
  ·simp only [Bool.and_eq_true] at e
   have := aq e.1.1; subst this
   cases g with | func g1 g2 => exact .func (lists e.1.2 g1) (lists e.2 g2)
  ·simp only [decide_eq_true_eq] at e
   cases g with | aF q => exact .aF (by rw [N.nu _ _ e]; exact q)
  ·cases g; exact .cW
  ·simp only [Bool.and_eq_true] at e
   have := aq e.1; subst this
   cases g with | iface g => exact .iface (ih e.2 g)
  ·cases g with | agg g => exact .agg (lists e g)
  ·cases g with | tuple g => exact .tuple (lists e g)
  ·cases e
theorem sY (R : HR P h0 h H ρ sh) (N : Names h H H' ρ σ β) (hρ : (σ.ev ρ).le ρ') {x y : Tr SV} {u : Tr AV} (e : yW P sh σ β x y = true) (g : mZ P h H ρ y u) : mZ P h H' ρ' x u :=
 fun t v hv => xE R N hρ (l9 e t v hv) (g.at t)
theorem mD (R : HR P h0 h H ρ sh) (N : Names h H H' ρ σ β) (hρ : (σ.ev ρ).le ρ') : ∀ {xs ys : List SV} {us : List AV}, cO (fits P sh σ β 20) xs ys = true -> cB P h H ρ ys us -> cB P h H' ρ' xs us
 | [], [], _, e, .nil => .nil
 | x :: xs, y :: ys, _, e, .cons g1 g2 => by
  simp only [cO, Bool.and_eq_true] at e
  exact .cons (xE R N hρ e.1 g1) (mD R N hρ e.2 g2)
 | [], _ :: _, _, e, _ => by simp [cO] at e
 | _ :: _, [], _, e, _ => by simp [cO] at e
theorem kz (R : HR P h0 h H ρ sh) (N : Names h H H' ρ σ β) (hρ : (σ.ev ρ).le ρ') : ∀ {xs ys : List oR} {us : List iZ}, cO (rD P sh σ β) xs ys = true -> jv P h H ρ ys us -> jv P h H' ρ' xs us
 | [], [], _, e, .nil => .nil
 | x :: xs, y :: ys, _, e, .cons g1 g2 => by
  simp only [cO, Bool.and_eq_true] at e
  refine .cons ?_ (kz R N hρ e.2 g2)
  obtain ⟨tx, ax⟩ := x
  obtain ⟨ty, ay⟩ := y
  obtain ⟨e1, _⟩ := e
  simp only [rD, Bool.and_eq_true] at e1
  obtain ⟨h1, h2⟩ := e1
  cases g1 with
  | func g =>
   cases tx with
   | func a => simp only at h1; have := aq h1; subst this; exact .func (mD R N hρ h2 g)
   | collected a => simp at h1
  | collected q g =>
   cases tx with
   | func a => simp at h1
   | collected a =>
    simp only [decide_eq_true_eq] at h1
    exact .collected (by rw [N.nu _ _ h1]; exact q) (mD R N hρ h2 g)
 | [], _ :: _, _, e, _ => by simp [cO] at e
 | _ :: _, [], _, e, _ => by simp [cO] at e
theorem wu (N : Names h H H' ρ σ β) : ∀ {xs ys : List bu}, yh β xs = true -> rh H xs ys -> rh H' xs ys
 | [], _, _, .nil => .nil
 | x :: xs, _, e, .cons g1 g2 => by
  simp only [yh, List.all_cons, Bool.and_eq_true] at e
  refine .cons ?_ (wu N e.2 g2)
  cases g1 with
  | same _ q => exact .same _ q
  | inRangeFunc q =>
   have e1 := e.1
   simp only [pd, decide_eq_true_eq] at e1
   exact .inRangeFunc (by rw [N.nu _ _ e1]; exact q)
  | endRangeFunc q =>
   have e1 := e.1
   simp only [pd, decide_eq_true_eq] at e1
   exact .endRangeFunc (by rw [N.nu _ _ e1]; exact q)
theorem tn (R : HR P h0 h H ρ sh) (N : Names h H H' ρ σ β) (hρ : (σ.ev ρ).le ρ') {x y z : aT} {u : ak} (e : vY P sh σ β x y = some z) (g : FR P h H ρ y u) : FR P h H' ρ' z u := by
 unfold vY at e
 obtain ⟨hc, e⟩ := aj e
 cases e
 simp only [Bool.and_eq_true] at hc
 obtain ⟨⟨⟨c1, c2⟩, c3⟩, c4⟩ := hc
 refine ⟨g.fn, g.nt, sY R N hρ c1 g.tm, wu N c3 g.todo, kz R N hρ c2 g.defers, g.mode, g.deferred, ?_⟩
 have gr := g.round
 simp only
 generalize y.roundOf = yr at c4 gr
 generalize u.roundOf = ur at gr
 cases gr with
 | none => exact .none
 | some q =>
  simp only [pd, decide_eq_true_eq] at c4
  exact .some (by rw [N.nu _ _ c4]; exact q)
theorem qL (R : HR P h0 h H ρ sh) (N : Names h H H' ρ σ β) (hρ : (σ.ev ρ).le ρ') : ∀ {xs ys zs : List aT} {us : List ak}, rG P sh σ β xs ys = some zs -> we P h H ρ ys us -> we P h H' ρ' zs us
 | [], [], _, _, e, .nil => by cases e; exact .nil
 | x :: xs, y :: ys, _, _, e, .cons g1 g2 => by
  unfold rG at e
  split at e
  ·rename_i z zs h1 h2
   cases e
   exact .cons (tn R N hρ h1 g1) (qL R N hρ h2 g2)
  ·cases e
 | [], _ :: _, _, _, e, _ => by cases e
 | _ :: _, [], _, _, e, _ => by cases e
noncomputable def eM (h : ah) (H : Hid) (ρ : Env) (σ : Sub) (β : j8) (x : ae) : Hid where
 ν a := match b9 a β with
  | some (some c) => H.ν c
  | some none => some .nil
  | none => none
 κ n := match σ.p[n]? with
  | some p => match fq h H ρ p with
   | some av => [av]
   | none => []
  | none => []
 κb b v := match x.get b with
  | some (.arr _ _ ib) => if v = ib /\ ib < x.next then (match (match b9 b β with | some (some c) => H.ν c | _ => none) with
   | some l => match l.at with
    | some a => match h.get a with
     | some (.cells cs) => cs
     | _ => []
    | none => []
   | none => []) else []
  | _ => []
 S := H.S
 fp b := match b9 b β with
  | some (some c) => H.fp c
  | _ => []
theorem fj {α : Type} : ∀ {l : List (Nat × α)} {n : Nat} {x : α}, b9 n l = some x -> (n, x) ∈ l
 | [], _, _, e => by cases e
 | (m, y) :: l, n, x, e => by
  unfold b9 at e
  cases hb : Nat.beq m n with
  | true => rw [hb] at e; cases e; have := aq hb; subst this; simp
  | false => rw [hb] at e; exact List.mem_cons_of_mem _ (fj e)
theorem BD {x : ae} : Names h H (eM h H ρ σ β x) ρ σ β := by
 refine ⟨fun a c e => by simp [eM, e], fun a e => by simp [eM, e], fun n p av e1 e2 => by simp [eM, e1, e2], rfl⟩
theorem dy {x y : ae} : ∀ (β : j8) (t : Tr b5) (b : Nat) (o : b5), (dY x y β t).get b = some o -> (t.get b = some o /\ ∀ c p q, (b, some c) ∈ β -> x.get b = some (.loop p) -> y.get c = some (.loop q) -> False) \/ ∃ c p q, (b, some c) ∈ β /\ x.get b = some (.loop p) /\ y.get c = some (.loop q) /\ o = .loop { q with tm := p.tm, defers := p.defers }
 | [], t, b, o, e => .inl ⟨e, fun c p q h => by simp at h⟩
 | (a, none) :: β, t, b, o, e => by
  rcases dy β t b o e with ⟨h, k⟩ | ⟨c, p, q, h1, h2⟩
  ·refine .inl ⟨h, fun c p q hm => ?_⟩
   simp only [List.mem_cons, Prod.mk.injEq, reduceCtorEq, and_false, false_or] at hm
   exact k c p q hm
  ·exact .inr ⟨c, p, q, List.mem_cons_of_mem _ h1, h2⟩
 | (a, some c) :: β, t, b, o, e => by
  unfold dY at e
  split at e
  ·rename_i p q hp hq
   rw [Tr.aP] at e
   split at e
   ·rename_i hb
    cases e
    subst hb
    exact .inr ⟨c, p, q, by simp, hp, hq, rfl⟩
   ·rename_i hb
    rcases dy β t b o e with ⟨h, k⟩ | ⟨c', p, q, h1, h2⟩
    ·refine .inl ⟨h, fun c' p q hm => ?_⟩
     simp only [List.mem_cons, Prod.mk.injEq] at hm
     rcases hm with ⟨hm, _⟩ | hm
     ·exact absurd hm hb
     ·exact k c' p q hm
    ·exact .inr ⟨c', p, q, List.mem_cons_of_mem _ h1, h2⟩
  ·rename_i hne
   rcases dy β t b o e with ⟨h, k⟩ | ⟨c', p, q, h1, h2⟩
   ·refine .inl ⟨h, fun c' p q hm hp hq => ?_⟩
    simp only [List.mem_cons, Prod.mk.injEq] at hm
    rcases hm with ⟨rfl, hm⟩ | hm
    ·cases hm; exact hne _ _ hp hq
    ·exact k c' p q hm hp hq
   ·exact .inr ⟨c', p, q, List.mem_cons_of_mem _ h1, h2⟩
theorem oF {β : j8} (h : cz (β.filterMap (·.2)) = true) : ∀ {a b c : Nat}, (a, some c) ∈ β -> (b, some c) ∈ β -> a = b := by
 induction β with
 | nil => intro a b c h1; simp at h1
 | cons x β ih =>
  intro a b c h1 h2
  obtain ⟨xa, xc⟩ := x
  cases xc with
  | none =>
   simp only [List.filterMap_cons] at h
   simp only [List.mem_cons, Prod.mk.injEq, reduceCtorEq, and_false, false_or] at h1 h2
   exact ih h h1 h2
  | some d =>
   simp only [List.filterMap_cons, cz, Bool.and_eq_true, Bool.not_eq_true'] at h
   have hno : ∀ e, (e, some d) ∉ β := by
    intro e he
    have : d ∈ β.filterMap (·.2) := List.mem_filterMap.2 ⟨(e, some d), he, rfl⟩
    have hc := h.1
    simp at hc
    exact hc _ he
   simp only [List.mem_cons, Prod.mk.injEq] at h1 h2
   rcases h1 with ⟨rfl, h1⟩ | h1
   ·cases h1
    rcases h2 with ⟨rfl, _⟩ | h2
    ·rfl
    ·exact absurd h2 (hno _)
   ·rcases h2 with ⟨rfl, h2⟩ | h2
    ·cases h2; exact absurd h1 (hno _)
    ·exact ih h.2 h1 h2
theorem oD {β : j8} (h : cz (β.map (·.1)) = true) : ∀ {a : Nat} {c : Option Nat}, (a, c) ∈ β -> b9 a β = some c := by
 induction β with
 | nil => intro a c h1; simp at h1
 | cons x β ih =>
  intro a c h1
  obtain ⟨xa, xc⟩ := x
  simp only [List.map_cons, cz, Bool.and_eq_true, Bool.not_eq_true'] at h
  unfold b9
  simp only [List.mem_cons, Prod.mk.injEq] at h1
  rcases h1 with ⟨rfl, rfl⟩ | h1
  ·simp
  ·have hne : xa ≠ a := by
    intro q; subst q
    have hc := h.1
    simp at hc
    exact hc _ h1
   have : Nat.beq xa a = false := by cases hb : Nat.beq xa a with | true => exact absurd (aq hb) hne | false => rfl
   rw [this]
   exact ih h.2 h1
theorem vP {o : b5} {c : Nat} (k : bt P sh σ β o (some c) = true) : ∃ oc, sh.get c = some oc /\ own oc = true := by
 cases o with
 | cells xs =>
  simp only [bt] at k
  split at k
  ·rename_i hg; exact ⟨_, hg, rfl⟩
  ·cases k
 | arr t e v =>
  simp only [bt] at k
  split at k
  ·rename_i hg; exact ⟨_, hg, rfl⟩
  ·cases k
 | dK t e n => simp [bt] at k
 | dh => simp [bt] at k
 | tree t e hole =>
  cases hole with
  | some _ => simp [bt] at k
  | none =>
   simp only [bt] at k
   split at k
   ·rename_i hg; exact ⟨_, hg, rfl⟩
   ·cases k
 | dW t et e i d =>
  simp only [bt] at k
  split at k
  ·rename_i hg; exact ⟨_, hg, rfl⟩
  ·cases k
 | loop x =>
  simp only [bt] at k
  split at k
  ·rename_i hg; exact ⟨_, hg, rfl⟩
  ·cases k
 | deferred ds =>
  cases ds with
  | none =>
   simp only [bt] at k
   split at k
   ·rename_i hg; exact ⟨_, hg, rfl⟩
   ·cases k
  | some ds =>
   simp only [bt] at k
   split at k
   ·rename_i hg; exact ⟨_, hg, rfl⟩
   ·cases k
theorem uW {S0 : Nat -> Prop} {outer : List ak} {x y z : au} {m : bc} {φ : List Nat} (e : Ch P x φ σ β y = some z) (hρ : (σ.ev ρ).le ρ') (g : MR P h0 S0 outer ρ y m) : MR P h0 S0 outer ρ' z m := by
 obtain ⟨H0, cs, h1, h2, h3, h4, h5⟩ := g
 obtain ⟨f, callers, h⟩ := m
 simp only at h1 h2 h3 h4
 unfold Ch at e
 simp only at e
 obtain ⟨H00, x00, R00, s00⟩ := jz (P := P) h4
 obtain ⟨H, x1, R, s1⟩ := dS (P := P) (φ.map .view) R00
 have x1 := x00.trans x1
 have s1 := s00.trans s1
 generalize dG (fY P y.h) (φ.map .view) = sh at e R
 split at e
 ·rename_i fr callers' hf hc
  obtain ⟨hH, e⟩ := aj e
  cases e
  unfold Cg at hH
  simp only [Bool.and_eq_true] at hH
  obtain ⟨⟨⟨⟨⟨k1, k2⟩, k2'⟩, k3⟩, k4⟩, k5⟩ := hH
  have hats := aq k4
  have N : Names h H (eM h H ρ σ β x.h) ρ σ β := BD
  -- the objects
  have bj : ∀ b o, (dY x.h sh β x.h.t).get b = some o -> (∃ c, b9 b β = some (some c) /\ (own o = true -> ∃ oc, sh.get c = some oc /\ own oc = true)) \/ (b9 b β = some none /\ ∀ l a, (eM h H ρ σ β x.h).ν b = some l -> l.at = some a -> False) := by
   intro b o ho
   have main : ∀ o, x.h.t.get b = some o -> (∃ c, b9 b β = some (some c) /\ (∃ oc, sh.get c = some oc /\ own oc = true)) \/ (b9 b β = some none) := by
    intro o ho
    have k := l9 k1 b o ho
    simp only [Bool.and_eq_true] at k
    obtain ⟨_, k⟩ := k
    split at k
    ·rename_i c hcb
     cases c with
     | none => exact .inr hcb
     | some c =>
      exact .inl ⟨c, hcb, vP k⟩
    ·cases k
   have fin : ∀ o', x.h.t.get b = some o' -> _ := fun o' ho' => (main o' ho').imp (fun ⟨c, c1, c2⟩ => (⟨c, c1, fun _ => c2⟩ : ∃ c, b9 b β = some (some c) /\ (own o = true -> ∃ oc, sh.get c = some oc /\ own oc = true))) (fun q => (⟨q, fun l a n1 l1 => by simp [eM, q] at n1; subst n1; cases l1⟩ : b9 b β = some none /\ ∀ l a, (eM h H ρ σ β x.h).ν b = some l -> l.at = some a -> False))
   rcases dy β x.h.t b o ho with ⟨ho, _⟩ | ⟨c, p, q, _, hp, _, _⟩
   ·exact fin o ho
   ·exact fin _ hp
  refine ⟨eM h H ρ σ β x.h, cs, h1, tn R N hρ hf (h2.mono x1), qL R N hρ hc (h3.mono x1), ⟨?_, ?_, ?_, R.fN, R.next, R.cJ, ?_, ?_, ?_, ?_, R.none_, ?_, ?_⟩, fun a ha => (s1 a ha).elim (h5 a) .inr⟩
  ·intro b o ho
   rcases dy β x.h.t b o ho with ⟨ho, hnl⟩ | ⟨c, p, q, hm, hp, hq, rfl⟩
   ·have k := l9 k1 b o ho
    simp only [Bool.and_eq_true] at k
    obtain ⟨kv, k⟩ := k
    split at k
    ·rename_i cc hcb
     cases o with
     | arr t e0 ib =>
      cases cc with
      | none =>
       simp only [bt, Bool.and_eq_true] at k
       obtain ⟨ka, kb⟩ := k
       split at kb
       ·rename_i sz hz
        exact .iA (by rw [jo hρ ka]; rfl) (N.ED _ hcb) hz (by omega)
       ·cases kb
      | some c =>
       simp only [bt] at k
       split at k
       ·rename_i t' e' v' hg
        simp only [Bool.and_eq_true] at k
        have := aq k.1; subst this
        have hv := jo hρ k.2
        have hnu := N.nu _ _ hcb
        have hoc := R.bj _ _ hg
        cases hoc with
        | iA q1 q2 q3 q4 => exact .iA (by rw [hv]; exact q1) (by rw [hnu]; exact q2) q3 q4
        | arr q1 q2 q3 q4 =>
         rename_i a len sz l acs
         refine .arr (by rw [hv]; exact q1) (by rw [hnu]; exact q2) ⟨q3.size, q3.pos, q3.len, q3.get, q3.row⟩ ?_
         have hvlt : ib < x.h.next := by simpa [C7, Nat.blt_eq] using kv
         have ho' : x.h.get b = some (.arr t e0 ib) := ho
         simp only [eM, ho', hvlt, and_self, if_true, hcb, q2, Loc.at, q3.get]
       ·cases k
     | cells xs =>
      cases cc with
      | none => simp [bt] at k
      | some c =>
       simp only [bt] at k
       split at k
       ·rename_i ys hg
        have hoc := R.bj _ _ hg
        cases hoc with
        | cells q1 q2 q3 => exact .cells (by rw [N.nu _ _ hcb]; exact q1) q2 (mD R N hρ k q3)
       ·cases k
     | dW t et e0 i0 d =>
      cases cc with
      | none => simp [bt] at k
      | some c =>
       simp only [bt] at k
       split at k
       ·rename_i t' et' e' i' d' hg
        simp only [Bool.and_eq_true, decide_eq_true_eq] at k
        obtain ⟨⟨⟨⟨y1, y2⟩, y3⟩, y4⟩, y5⟩ := k
        have := aq y1; subst this
        have := aq y2; subst this
        have hv := jo hρ y3
        have hi := vI hρ y4
        have hnu := N.nu _ _ hcb
        have hnd := N.nu _ _ y5
        have hoc := R.bj _ _ hg
        cases hoc with
        | dW q1 q2 q3 q4 q5 q6 q7 q8 q9 q10 =>
         obtain ⟨av, g1, g2⟩ := q9
         refine .dW (by rw [hv]; exact q1) (by rw [hnu]; exact q2) q3 q4 q5 q6 (by rw [hi]; exact q7) q8 ⟨av, g1, ?_⟩ q10
         rcases g2 with ⟨a, b⟩ | ⟨a, len, sz, b, c⟩
         ·exact .inl ⟨by rw [hnd]; exact a, b⟩
         ·exact .inr ⟨a, len, sz, by rw [hnd]; exact b, c⟩
       ·cases k
     | dK t e0 n => cases cc <;> simp [bt] at k
     | dh => cases cc <;> simp [bt] at k
     | tree t e0 hole =>
      cases hole with
      | some _ => cases cc <;> simp [bt] at k
      | none =>
       cases cc with
       | none =>
        simp only [bt, Bool.and_eq_true] at k
        obtain ⟨ka, kb⟩ := k
        split at kb
        ·rename_i sz hz
         exact .eH (by rw [jo hρ ka]; rfl) (N.ED _ hcb) hz (by omega) (by simp [eM, hcb])
        ·cases kb
       | some c =>
        simp only [bt] at k
        split at k
        ·rename_i t' e' hg
         simp only [Bool.and_eq_true] at k
         have := aq k.1; subst this
         have hv := jo hρ k.2
         have hnu := N.nu _ _ hcb
         have hfp : (eM h H ρ σ β x.h).fp b = H.fp c := by simp [eM, hcb]
         have hoc := R.bj _ _ hg
         cases hoc with
         | eH q1 q2 q3 q4 q5 => exact .eH (by rw [hv]; exact q1) (by rw [hnu]; exact q2) q3 q4 (by rw [hfp, q5])
         | tree q1 q2 q3 q4 => exact .tree (by rw [hv]; exact q1) (by rw [hnu]; exact q2) q3 (by rw [hfp]; exact q4)
        ·cases k
     | deferred ds =>
      cases cc with
      | none => cases ds <;> simp [bt] at k
      | some c =>
       cases ds with
       | none =>
        simp only [bt] at k
        split at k
        ·rename_i hg
         have hoc := R.bj _ _ hg
         cases hoc with
         | deferred q1 q2 q3 =>
          rename_i yy a
          cases yy with
          | none => exact .deferred (y := none) (by rw [N.nu _ _ hcb]; exact q1) q2 trivial
          | some _ => exact q3.elim
        ·cases k
       | some ds =>
        simp only [bt] at k
        split at k
        ·rename_i es hg
         have hoc := R.bj _ _ hg
         cases hoc with
         | deferred q1 q2 q3 =>
          rename_i yy a
          cases yy with
          | none => exact q3.elim
          | some us => exact .deferred (y := some us) (by rw [N.nu _ _ hcb]; exact q1) q2 (kz R N hρ k q3)
        ·cases k
     | loop xl =>
      exfalso
      cases cc with
      | none => simp [bt] at k
      | some c =>
       simp only [bt] at k
       split at k
       ·rename_i yl hg
        exact hnl c xl yl (fj hcb) ho hg
       ·cases k
    ·cases k
   ·-- a loop
    have k := l9 k1 b _ hp
    simp only [Bool.and_eq_true] at k
    obtain ⟨_, k⟩ := k
    rw [oD k2' hm] at k
    simp only [bt, hq, Bool.and_eq_true, decide_eq_true_eq] at k
    have hoc := R.bj _ _ hq
    cases hoc with
    | loop q1 q2 q3 =>
     exact .loop (by rw [N.nu _ _ (oD k2' hm)]; exact q1) q2 ⟨q3.state, q3.pending, q3.fn, q3.nt, sY R N hρ k.1 q3.tm, q3.params, q3.assign, q3.body, by rw [N.nu _ _ k.2]; exact q3.defers⟩
  ·intro b b' o o' l l' a e1 e2 w1 w2 n1 n2 a1 a2
   rcases bj b o e1 with ⟨c, c1, c2⟩ | ⟨_, c2⟩
   ·rcases bj b' o' e2 with ⟨c', c1', c2'⟩ | ⟨_, c2'⟩
    ·obtain ⟨oc, p1, p2⟩ := c2 w1
     obtain ⟨oc', p1', p2'⟩ := c2' w2
     rw [N.nu _ _ c1] at n1
     rw [N.nu _ _ c1'] at n2
     have := R.inj _ _ _ _ _ _ _ p1 p1' p2 p2' n1 n2 a1 a2
     subst this
     exact oF k2 (fj c1) (fj c1')
    ·exact (c2' _ _ n2 a2).elim
   ·exact (c2 _ _ n1 a1).elim
  ·intro b o l a e1 w1 n1 a1
   rcases bj b o e1 with ⟨c, c1, c2⟩ | ⟨_, c2⟩
   ·obtain ⟨oc, p1, p2⟩ := c2 w1
    rw [N.nu _ _ c1] at n1
    exact R.mL _ _ _ _ p1 p2 n1 a1
   ·exact (c2 _ _ n1 a1).elim
  ·intro b hb
   have : b9 b β = none := by
    cases hq : b9 b β with
    | none => rfl
    | some c =>
     have hm := fj hq
     have := List.all_eq_true.1 k3 _ hm
     simp only [Nat.blt_eq] at this
     have hb : x.h.next <= b := hb
     omega
   simp [eM, this]
  ·intro b l a n1 a1
   simp only [eM] at n1
   split at n1
   ·exact R.cV _ _ _ n1 a1
   ·cases n1; cases a1
   ·cases n1
  ·intro n hn
   have hn : x.h.iz <= n := hn
   have : σ.p[n]? = none := List.getElem?_eq_none (by omega)
   simp [eM, this]
  ·intro b v hv
   have hv : x.h.next <= v := hv
   simp only [eM]
   split
   ·rw [if_neg (by omega)]
   ·rfl
  ·intro b o ho
   show b < x.h.next
   rcases bj b o ho with ⟨c, c1, _⟩ | ⟨c1, _⟩
   all_goals
    have hm := fj c1
    have := List.all_eq_true.1 k3 _ hm
    simpa [Nat.blt_eq] using this
  ·-- the trees
   have src : ∀ b o, (dY x.h sh β x.h.t).get b = some o -> bf o = true -> (∃ c oc, b9 b β = some (some c) /\ sh.get c = some oc /\ bf oc = true) \/ b9 b β = some none := by
    intro b o ho w
    rcases dy β x.h.t b o ho with ⟨ho, _⟩ | ⟨c, p, q, _, _, _, rfl⟩
    ·have k := l9 k1 b o ho
     simp only [Bool.and_eq_true] at k
     obtain ⟨_, k⟩ := k
     split at k
     ·rename_i cc hcb
      cases cc with
      | none => exact .inr hcb
      | some c =>
       cases o with
       | tree t e0 hole =>
        cases hole with
        | some _ => simp [bt] at k
        | none =>
         simp only [bt] at k
         split at k
         ·rename_i hg; exact .inl ⟨c, _, hcb, hg, rfl⟩
         ·cases k
       | dh => simp [bt] at k
       | _ => cases w
     ·cases k
    ·cases w
   have hfp : ∀ {b c : Nat}, b9 b β = some (some c) -> (eM h H ρ σ β x.h).fp b = H.fp c := fun q => by simp [eM, q]
   have hfp0 : ∀ {b : Nat}, b9 b β = some none -> (eM h H ρ σ β x.h).fp b = [] := fun q => by simp [eM, q]
   refine ⟨fun b o e w a ha => ?_, fun b o e w => ?_, fun b b' o o' a e e' w w' ha ha' => ?_, fun b o b' o' l a e w ha e' w' n l1 => ?_⟩
   ·rcases src b o e w with ⟨c, oc, c1, c2, c3⟩ | c1
    ·rw [hfp c1] at ha
     exact R.tr.lt _ _ c2 c3 _ ha
    ·rw [hfp0 c1] at ha; simp at ha
   ·rcases src b o e w with ⟨c, oc, c1, c2, c3⟩ | c1
    ·rw [hfp c1]; exact R.tr.nd _ _ c2 c3
    ·rw [hfp0 c1]; exact List.nodup_nil
   ·rcases src b o e w with ⟨c, oc, c1, c2, c3⟩ | c1
    ·rw [hfp c1] at ha
     rcases src b' o' e' w' with ⟨c', oc', c1', c2', c3'⟩ | c1'
     ·rw [hfp c1'] at ha'
      have := R.tr.inj _ _ _ _ _ c2 c2' c3 c3' ha ha'
      subst this
      exact oF k2 (fj c1) (fj c1')
     ·rw [hfp0 c1'] at ha'; simp at ha'
    ·rw [hfp0 c1] at ha; simp at ha
   ·rcases src b o e w with ⟨c, oc, c1, c2, c3⟩ | c1
    ·rw [hfp c1] at ha
     rcases bj b' o' e' with ⟨c', c1', c2'⟩ | ⟨_, c2'⟩
     ·obtain ⟨oc', p1', p2'⟩ := c2' w'
      rw [N.nu _ _ c1'] at n
      exact R.tr.ow _ _ _ _ _ _ c2 c3 ha p1' p2' n l1
     ·exact (c2' _ _ n l1).elim
    ·rw [hfp0 c1] at ha; simp at ha
 ·cases e
end
end Go.Sym
namespace Go.Sym
open Go Go.a9
def Ends (P : Program) (f : FuncId) (h0 : ah) (S0 : Nat -> Prop) (outer : List ak) (r : V) (m : bc) : Prop :=
 m.callers = outer /\ m.fr.fn = f /\ m.fr.mode = .returning /\ m.fr.defers = [] /\ m.fr.deferred = false /\ h0.next <= m.h.next /\ (∀ c, c < h0.next -> m.h.get c = h0.get c) /\ (∀ c, m.h.next <= c -> m.h.get c = none) /\
 ∃ fn us, P.funcs[f]? = some fn /\ bq P m.h m.fr.tm fn.results.toList = some us /\ tv P m.h (fun c => S0 c \/ (h0.next <= c /\ c < m.h.next)) fn.resultTypes.toList r us
def Comes (C : dj) (f : FuncId) (s : au) (ρ : Env) (r : V) : Prop :=
 ∀ h0 S0 outer m, (∀ ρ', ρ.le ρ' -> MR C.P h0 S0 outer ρ' s m) -> ∃ m', bP C.P m m' /\ Ends C.P f h0 S0 outer r m'
def Env.ext (ρ : Env) (l : List V) : Env := { ρ with v := ρ.v ++ l }
theorem Env.vE (ρ : Env) (l : List V) : ρ.le (ρ.ext l) := ⟨rfl, rfl, l, rfl⟩
section
variable {C : dj} {f : FuncId} {s s' : au} {ρ : Env} {r : V}
theorem Comes.step (K : cx C.P) {n : Nat} {ch : List Bool} {φ : List Nat} {σ : Sub} {β : j8} {ev : List Ev} (e : af C n ch s s' φ σ β = some (s', ev)) (l : List V) (hev : ag C.P (ρ.ext l) s.h.nv ev) (k : Comes C f s' (σ.ev (ρ.ext l)) r) : Comes C f s ρ r := by
 intro h0 S0 outer m g
 unfold af at e
 split at e
 ·rename_i z ev' hr
  simp only [Option.map_eq_some_iff] at e
  obtain ⟨m1, ha, e⟩ := e
  cases e
  obtain ⟨m2, k1, k2⟩ := kU K n (g _ (ρ.vE l)) hr hev
  obtain ⟨m3, k3, k4⟩ := k h0 S0 outer m2 fun ρ' hρ' => uW ha hρ' k2
  exact ⟨m3, k1.trans k3, k4⟩
 ·cases e
theorem Comes.last (K : cx C.P) {n : Nat} {ch : List Bool} {e0 : E} {ev : List Ev} (e : Sym.last C f n ch s = some (e0, ev)) (l : List V) (hev : ag C.P (ρ.ext l) s.h.nv ev) (hr : e0.v (ρ.ext l) = r) : Comes C f s ρ r := by
 intro h0 S0 outer m g
 unfold Sym.last at e
 split at e
 ·rename_i z ev' hrun
  simp only [Option.map_eq_some_iff] at e
  obtain ⟨⟨e1, ev2⟩, hs, e⟩ := e
  cases e
  rw [ag.append] at hev
  obtain ⟨m2, k1, H, cs, h1, h2, h3, R, B⟩ := kU K n (g _ (ρ.vE l)) hrun hev.1
  refine ⟨m2, k1, ?_⟩
  unfold send at hs
  split at hs
  ·rename_i hc hm hd
   rw [hc] at h3
   cases h3
   have gm := h2.mode
   rw [hm] at gm
   have gd := h2.defers
   rw [hd] at gd
   obtain ⟨hq, hs⟩ := aj hs
   simp only [Bool.and_eq_true, Bool.not_eq_true'] at hq
   have hfn := aq hq.1
   split at hs
   ·rename_i fn hf
    split at hs
    ·rename_i vs c hres
     simp only at hs
     -- the results
     have hcH : bo (ρ.ext l) c := by
      have : ev2 = asks c := by
       split at hs
       ·simp only [Option.map_eq_some_iff] at hs
        obtain ⟨_, _, q⟩ := hs
        cases q; rfl
       ·cases hs
       ·simp only [Option.map_eq_some_iff] at hs
        obtain ⟨_, _, q⟩ := hs
        cases q; rfl
      have := hev.2
      rw [‹ev2 = asks c›] at this
      exact ag.asks.1 this
     obtain ⟨us, u1, u2⟩ := en R h2.tm hres hcH
     obtain ⟨H0, x0, R0, s0⟩ := jz (P := C.P) R
     obtain ⟨H1, x1, R1, s1⟩ := dS (P := C.P) (eT vs) R0
     have x1 := x0.trans x1
     have s1 := s0.trans s1
     generalize dG (fY C.P z.h) (eT vs) = sh1 at hs R1
     have hS : ∀ a, H1.S a -> S0 a \/ (h0.next <= a /\ a < m2.h.next) := by
      intro a ha
      have hlt := R1.fN a ha
      rcases s1 a ha with q | q
      ·rcases B a q with q | q
       ·exact .inl q
       ·exact .inr ⟨q, hlt⟩
      ·exact .inr ⟨q, hlt⟩
     have hk : Kept m2.h (zj m2.h H1 false) m2.h (fun c => S0 c \/ (h0.next <= c /\ c < m2.h.next)) := fun a ha => ⟨hS a ha, fun _ e => e⟩
     refine ⟨by rw [h1]; rfl, by rw [h2.fn, hfn], gm.nZ, ?_, by rw [h2.deferred, hq.2], R.next, R.cJ, R.none_, fn, us, hf, u1, ?_⟩
     ·generalize m2.fr.defers = md at gd; cases gd; rfl
     ·split at hs
      ·rename_i t v ht
       simp only [Option.map_eq_some_iff] at hs
       obtain ⟨e', he, q⟩ := hs
       cases q
       cases u2 with
       | cons g1 g2 =>
        cases g2
        rw [ht]
        refine ⟨_, rfl, ?_⟩
        rw [<- hr]
        exact (xR R1 (g1.mono x1) he).mono hk
      ·cases hs
      ·rename_i ts hne1 hne2
       simp only [Option.map_eq_some_iff] at hs
       obtain ⟨l', he, q⟩ := hs
       cases q
       have ga := (mH R1 (u2.mono x1) he).mono hk
       unfold tv
       split
       ·rename_i t ht
        first | exact (hne1 _ ht).elim | exact (hne2 _ ht).elim | exact (hne2 _ _ ht rfl).elim | exact (hne1 _ _ ht rfl).elim | exact (hne2 _ _ ht).elim | exact (hne1 _ _ ht).elim
       ·exact ⟨_, by rw [<- hr, rB], ga⟩
    ·cases hs
   ·cases hs
  ·cases hs
 ·cases e
theorem pc {P : Program} {h : ah} {H : Hid} {ρ : Env} : ∀ {ts : List TypeId} {j : Nat} {xs : List V} {as_ : List AV} {vs : List SV}, fJ P h H.S ts xs as_ -> zO P j ts = some vs -> (∀ (i : Nat) x, xs[i]? = some x -> ρ.v[j + i]? = some x) -> (∀ (i : Nat) a, as_[i]? = some a -> H.κ (j + i) = a.cells) -> cB P h H ρ vs as_
 | [], j, _, _, vs, .nil, e, _, _ => by cases e; exact .nil
 | t :: ts, j, _, _, vs, .cons (x := x) (a := a) g1 g2, e, hx, hk => by
  unfold zO at e
  split at e
  ·rename_i cs l h1 h2
   simp only [Option.map_eq_some_iff] at e
   obtain ⟨v, h3, e⟩ := e
   cases e
   obtain ⟨p1, p2⟩ := g1.cells
   have hv : (E.vv j).v ρ = x := by
    have := hx 0 x rfl
    simp only [E.v, List.getD_eq_getElem?_getD]
    rw [show j = j + 0 from rfl, this]; rfl
   have hc : cB P h H ρ cs a.cells := by
    refine dC (Nat.le_refl _) (by rw [hv]; exact p1) h1 ?_
    intro k av hk'
    have := hk 0 a rfl
    simp only [fq, Nat.zero_add]
    rw [show j = j + 0 from rfl, this]; exact hk'
   refine .cons (jT (x := x) hc p2 h3) (pc g2 h2 (fun i y hy => ?_) (fun i b hb => ?_))
   ·rw [show j + 1 + i = j + (i + 1) from by omega]; exact hx (i + 1) y (by simpa using hy)
   ·rw [show j + 1 + i = j + (i + 1) from by omega]; exact hk (i + 1) b (by simpa using hb)
  ·cases e
theorem fJ.zV {P : Program} {h : ah} {S : Nat -> Prop} {ts : List TypeId} {xs : List V} {as_ : List AV} (g : fJ P h S ts xs as_) : as_.length = ts.length /\ xs.length = ts.length := by
 induction g with
 | nil => exact ⟨rfl, rfl⟩
 | cons _ _ ih => simp [ih.1, ih.2]
theorem Fn.of {xs : List V} (hb : aW C.P f = some s) (k : Comes C f s ⟨[], [], xs⟩ r) : Fn C.P f xs r := by
 intro h S as_ fn hfn hS hno ga
 unfold aW at hb
 rw [hfn] at hb
 simp only at hb
 split at hb
 ·rename_i vs hv
  simp only [Option.map_eq_some_iff] at hb
  obtain ⟨fr, he, hb⟩ := hb
  subst hb
  have lens := ga.zV
  let H : Hid := { ν := fun _ => none, κ := fun n => match as_[n]? with | some a => a.cells | none => [], κb := fun _ _ => [], S, fp := fun _ => [] }
  have hargs : ∀ ρ', (⟨[], [], xs⟩ : Env).le ρ' -> cB C.P h H ρ' vs as_ := by
   intro ρ' hρ'
   obtain ⟨_, _, l, hl⟩ := hρ'
   refine pc (H := H) ga hv (fun i x hx => ?_) (fun i a ha => ?_)
   ·rw [hl, Nat.zero_add]
    simp only
    rw [List.getElem?_append_left (List.getElem?_eq_some_iff.1 hx).1]; exact hx
   ·simp only [H, Nat.zero_add, ha]
  obtain ⟨g, g1, _⟩ := fZ (hargs _ ⟨rfl, rfl, [], by simp⟩) he
  refine ⟨g, g1, fun callers => ?_⟩
  have start : ∀ ρ', (⟨[], [], xs⟩ : Env).le ρ' -> MR C.P h S callers ρ' { fr, callers := [], h := { next := 0, iz := fn.params.size, nv := fn.params.size, t := .nil } } { fr := g, callers, h } := by
   intro ρ' hρ'
   obtain ⟨g', g1', g2⟩ := fZ (hargs ρ' hρ') he
   rw [g1] at g1'; cases g1'
   have hnil : ∀ b o, (({ next := 0, iz := fn.params.size, nv := fn.params.size, t := .nil } : ae).get b) = some o -> False := by
    intro b o e
    have : (Tr.nil : Tr b5).get b = some o := e
    rw [Tr.get_nil] at this; cases this
   refine ⟨H, [], rfl, g2, .nil, ⟨fun b o e => (hnil b o e).elim, fun b _ o _ _ _ _ e => (hnil b o e).elim, fun b o _ _ e => (hnil b o e).elim, hS, Nat.le_refl _, fun _ _ => rfl, fun _ _ => rfl, (fun _ _ _ e => by cases e), ?_, fun _ _ _ => rfl, hno, fun b o e => (hnil b o e).elim, ⟨fun b o e => (hnil b o e).elim, fun b o e => (hnil b o e).elim, fun b _ o _ _ e => (hnil b o e).elim, fun b o _ _ _ _ e => (hnil b o e).elim⟩⟩, fun a ha => .inl ha⟩
   intro n hn
   have hn : fn.params.size <= n := hn
   have : as_[n]? = none := List.getElem?_eq_none (by rw [lens.1]; simpa using hn)
   simp only [H, this]
  obtain ⟨m', k1, k2⟩ := k h S callers _ start
  obtain ⟨q1, q2, q3, q4, q5, q6, q7, q8, fn', us, q9, q10, q11⟩ := k2
  rw [hfn] at q9; cases q9
  obtain ⟨mf, mc, mh⟩ := m'
  simp only at q1 q2 q3 q4 q5 q6 q7 q8 q10 q11
  subst q1
  exact ⟨mf, mh, us, q6, q7, q8, q11, q2, q3, q4, q5, q10, k1⟩
 ·cases hb
def Ek (P : Program) (f : FuncId) (h0 : ah) (outer : List ak) (r : V) (m : bc) : Prop :=
 m.callers = outer /\ m.fr.fn = f /\ m.fr.mode = .returning /\ m.fr.defers = [] /\ m.fr.deferred = false /\ h0.next <= m.h.next /\ (∀ c, c < h0.next -> m.h.get c = h0.get c) /\ (∀ c, m.h.next <= c -> m.h.get c = none) /\
 ∃ fn us F, P.funcs[f]? = some fn /\ bq P m.h m.fr.tm fn.results.toList = some us /\ v8 P m.h fn.resultTypes.toList r us F /\ F.Nodup /\ ∀ a, a ∈ F -> h0.next <= a /\ a < m.h.next
def fI (C : dj) (f : FuncId) (s : au) (ρ : Env) (r : V) : Prop :=
 ∀ h0 S0 outer m, (∀ ρ', ρ.le ρ' -> MR C.P h0 S0 outer ρ' s m) -> ∃ m', bP C.P m m' /\ Ek C.P f h0 outer r m'
theorem fI.step (K : cx C.P) {n : Nat} {ch : List Bool} {φ : List Nat} {σ : Sub} {β : j8} {ev : List Ev} (e : af C n ch s s' φ σ β = some (s', ev)) (l : List V) (hev : ag C.P (ρ.ext l) s.h.nv ev) (k : fI C f s' (σ.ev (ρ.ext l)) r) : fI C f s ρ r := by
 intro h0 S0 outer m g
 unfold af at e
 split at e
 ·rename_i z ev' hr
  simp only [Option.map_eq_some_iff] at e
  obtain ⟨m1, ha, e⟩ := e
  cases e
  obtain ⟨m2, k1, k2⟩ := kU K n (g _ (ρ.vE l)) hr hev
  obtain ⟨m3, k3, k4⟩ := k h0 S0 outer m2 fun ρ' hρ' => uW ha hρ' k2
  exact ⟨m3, k1.trans k3, k4⟩
 ·cases e
theorem qu {P : Program} {h0 h : ah} {H : Hid} {ρ : Env} {sh : ae} (R : HR P h0 h H ρ sh) : ∀ {ts : List TypeId} {vs : List SV} {us : List AV} {es : List E} {bs : List Nat}, cB P h H ρ vs us -> ru P sh ts vs = some (es, bs) -> m7 sh bs /\ qN P h ts (es.map (E.v ρ)) us (bs.flatMap (gZ H sh))
 | [], [], us, es, bs, g, k => by cases k; cases g; exact ⟨fun k hk => by simp at hk, .nil⟩
 | t :: ts, v :: vs, us, es, bs, g, k => by
  cases g with
  | cons g1 g2 =>
  rename_i u us'
  unfold ru at k
  split at k
  ·rename_i e l h1 h2
   obtain ⟨e, eb⟩ := e
   obtain ⟨l, lb⟩ := l
   cases k
   obtain ⟨hp, h1⟩ := aj h1
   obtain ⟨w1, w2⟩ := qu R g2 h2
   have fin : m7 sh eb /\ Co P h t (e.v ρ) u (eb.flatMap (gZ H sh)) := by
    unfold oh at hp
    split at hp
    ·rename_i ht
     split at hp
     ·rename_i cs
      simp only [decide_eq_true_eq] at hp
      cases g1 with
      | agg g1 =>
       obtain ⟨c, r, y1, y2, y3⟩ := kk R h1 g1
       have hl := y2.length
       rw [hp] at hl
       have hl2 := g1.length
       have hr : r = [] := by
        rw [y1] at hl2
        simp at hl hl2
        exact List.length_eq_zero_iff.1 (by omega)
       subst hr
       rw [List.append_nil] at y1
       subst y1
       exact ⟨y3, _, y2, .inl ⟨ht, rfl⟩⟩
     ·cases hp
    ·rename_i ht
     simp only [Bool.and_eq_true, decide_eq_true_eq] at hp
     have hb : v ≠ .bad := by intro q; subst q; simp [SV.one] at hp
     have gc := g1.cells' hb
     rw [g1.one' hp.1] at gc
     obtain ⟨c, r, y1, y2, y3⟩ := kk R h1 gc
     have hl := y2.length
     rw [hp.2] at hl
     have hl' : c.length = 1 := by simpa using hl.symm
     cases c with
     | nil => simp at hl'
     | cons a c =>
      cases c with
      | nil => simp at y1; obtain ⟨rfl, _⟩ := y1; exact ⟨y3, _, y2, .inr ⟨ht, rfl⟩⟩
      | cons b c => simp at hl'
    ·cases hp
   exact ⟨fin.1.append w1, by rw [List.flatMap_append]; exact .cons fin.2 w2⟩
  ·cases k
 | [], _ :: _, _, _, _, _, k => by cases k
 | _ :: _, [], _, _, _, _, k => by cases k
theorem fI.last (K : cx C.P) {n : Nat} {ch : List Bool} {e0 : E} {ev : List Ev} (e : Sym.zW C f n ch s = some (e0, ev)) (l : List V) (hev : ag C.P (ρ.ext l) s.h.nv ev) (hr : e0.v (ρ.ext l) = r) : fI C f s ρ r := by
 intro h0 S0 outer m g
 unfold Sym.zW at e
 split at e
 ·rename_i z ev' hrun
  simp only [Option.map_eq_some_iff] at e
  obtain ⟨⟨e1, ev2⟩, hs, e⟩ := e
  cases e
  rw [ag.append] at hev
  obtain ⟨m2, k1, H, cs, h1, h2, h3, R, B⟩ := kU K n (g _ (ρ.vE l)) hrun hev.1
  refine ⟨m2, k1, ?_⟩
  unfold C9 at hs
  split at hs
  ·rename_i hc hm hd
   rw [hc] at h3
   cases h3
   have gm := h2.mode
   rw [hm] at gm
   have gd := h2.defers
   rw [hd] at gd
   obtain ⟨hq, hs⟩ := aj hs
   simp only [Bool.and_eq_true, Bool.not_eq_true'] at hq
   have hfn := aq hq.1
   split at hs
   ·rename_i fn hf
    split at hs
    ·rename_i vs c hres
     split at hs
     case h_2 => cases hs
     rename_i es bs hov
     obtain ⟨hdis, hs'⟩ := aj hs
     clear hs
     have hs := hs'
     clear hs'
     have hcH : bo (ρ.ext l) c := by
      have : ev2 = asks c := by
       split at hs
       ·cases hs; rfl
       ·cases hs
       ·cases hs; rfl
      have := hev.2
      rw [‹ev2 = asks c›] at this
      exact ag.asks.1 this
     obtain ⟨us, u1, u2⟩ := en R h2.tm hres hcH
     obtain ⟨H0, x0, R0, s0⟩ := jz (P := C.P) R
     obtain ⟨ko, ga⟩ := qu R0 (u2.mono x0) hov
     have nd := nM R0 (hZ hdis) ko
     refine ⟨by rw [h1]; rfl, by rw [h2.fn, hfn], gm.nZ, ?_, by rw [h2.deferred, hq.2], R.next, R.cJ, R.none_, fn, us, _, hf, u1, ?_, nd, ?_⟩
     ·generalize m2.fr.defers = md at gd; cases gd; rfl
     ·split at hs
      ·rename_i t v ht
       cases hs
       rw [ht] at ga ⊢
       generalize hF : List.flatMap (gZ H0 (fY C.P z.h)) bs = F at ga ⊢
       cases ga with
       | cons g1 g2 =>
        cases g2
        refine ⟨_, rfl, ?_⟩
        rw [<- hr, List.append_nil]
        exact g1
      ·cases hs
      ·rename_i ts es' hne1 hne2
       cases hs
       unfold v8
       split
       ·rename_i t ht
        first | exact (hne1 _ ht).elim | exact (hne2 _ ht).elim | exact (hne2 _ _ ht rfl).elim | exact (hne1 _ _ ht rfl).elim | exact (hne2 _ _ ht).elim | exact (hne1 _ _ ht).elim
       ·exact ⟨_, by rw [<- hr, rB], ga⟩
     ·intro a ha
      obtain ⟨k, hk, hkb⟩ := List.mem_flatMap.1 ha
      obtain ⟨ok, e1, w1⟩ := ko k hk
      exact (R0.hasB e1 w1 (iE e1 hkb)).2
    ·cases hs
   ·cases hs
  ·cases hs
 ·cases e
theorem Cq.of {xs : List V} (hb : aW C.P f = some s) (k : fI C f s ⟨[], [], xs⟩ r) : Cq C.P f xs r := by
 intro h S as_ fn hfn hS hno ga
 unfold aW at hb
 rw [hfn] at hb
 simp only at hb
 split at hb
 ·rename_i vs hv
  simp only [Option.map_eq_some_iff] at hb
  obtain ⟨fr, he, hb⟩ := hb
  subst hb
  have lens := ga.zV
  let H : Hid := { ν := fun _ => none, κ := fun n => match as_[n]? with | some a => a.cells | none => [], κb := fun _ _ => [], S, fp := fun _ => [] }
  have hargs : ∀ ρ', (⟨[], [], xs⟩ : Env).le ρ' -> cB C.P h H ρ' vs as_ := by
   intro ρ' hρ'
   obtain ⟨_, _, l, hl⟩ := hρ'
   refine pc (H := H) ga hv (fun i x hx => ?_) (fun i a ha => ?_)
   ·rw [hl, Nat.zero_add]
    simp only
    rw [List.getElem?_append_left (List.getElem?_eq_some_iff.1 hx).1]; exact hx
   ·simp only [H, Nat.zero_add, ha]
  obtain ⟨g, g1, _⟩ := fZ (hargs _ ⟨rfl, rfl, [], by simp⟩) he
  refine ⟨g, g1, fun callers => ?_⟩
  have start : ∀ ρ', (⟨[], [], xs⟩ : Env).le ρ' -> MR C.P h S callers ρ' { fr, callers := [], h := { next := 0, iz := fn.params.size, nv := fn.params.size, t := .nil } } { fr := g, callers, h } := by
   intro ρ' hρ'
   obtain ⟨g', g1', g2⟩ := fZ (hargs ρ' hρ') he
   rw [g1] at g1'; cases g1'
   have hnil : ∀ b o, (({ next := 0, iz := fn.params.size, nv := fn.params.size, t := .nil } : ae).get b) = some o -> False := by
    intro b o e
    have : (Tr.nil : Tr b5).get b = some o := e
    rw [Tr.get_nil] at this; cases this
   refine ⟨H, [], rfl, g2, .nil, ⟨fun b o e => (hnil b o e).elim, fun b _ o _ _ _ _ e => (hnil b o e).elim, fun b o _ _ e => (hnil b o e).elim, hS, Nat.le_refl _, fun _ _ => rfl, fun _ _ => rfl, (fun _ _ _ e => by cases e), ?_, fun _ _ _ => rfl, hno, fun b o e => (hnil b o e).elim, ⟨fun b o e => (hnil b o e).elim, fun b o e => (hnil b o e).elim, fun b _ o _ _ e => (hnil b o e).elim, fun b o _ _ _ _ e => (hnil b o e).elim⟩⟩, fun a ha => .inl ha⟩
   intro n hn
   have hn : fn.params.size <= n := hn
   have : as_[n]? = none := List.getElem?_eq_none (by rw [lens.1]; simpa using hn)
   simp only [H, this]
  obtain ⟨m', k1, k2⟩ := k h S callers _ start
  obtain ⟨q1, q2, q3, q4, q5, q6, q7, q8, fn', us, F, q9, q10, q11, q12, q13⟩ := k2
  rw [hfn] at q9; cases q9
  obtain ⟨mf, mc, mh⟩ := m'
  simp only at q1 q2 q3 q4 q5 q6 q7 q8 q10 q11 q13
  subst q1
  exact ⟨mf, mh, us, F, q6, q7, q8, q11, q12, q13, q2, q3, q4, q5, q10, k1⟩
 ·cases hb
end
end Go.Sym
namespace X
open Go Go.a9 Go.Sym
noncomputable abbrev prog : Program := Go.Proofs.Tryd.prog
noncomputable def z {α : Type} : Tr α := .nil
noncomputable def l {α : Type} (v : α) : Tr α := .node (some v) .nil .nil .nil .nil
noncomputable def n {α : Type} (a b c d : Tr α) : Tr α := .node none a b c d
noncomputable def m {α : Type} (v : α) (a b c d : Tr α) : Tr α := .node (some v) a b c d
def pl : fR := [(6, [(6, [(0, []), (2, []), (3, []), (4, []), (5, []), (6, []), (8, []), (1, [4, 5, 6]), (7, [])])]), (10, [(7, [(0, []), (1, []), (2, []), (3, []), (4, []), (5, []), (6, []), (7, []), (8, []), (9, []), (10, []), (11, []), (12, []), (13, []), (14, []), (15, []), (16, []), (17, []), (18, []), (19, []), (20, []), (21, []), (22, []), (23, []), (24, []), (25, []), (26, []), (27, []), (28, []), (29, []), (30, []), (31, []), (32, []), (33, []), (34, [33]), (35, []), (36, []), (37, []), (38, []), (39, []), (40, []), (41, []), (42, []), (43, []), (44, []), (45, []), (46, []), (47, []), (48, []), (49, []), (50, []), (51, []), (52, []), (53, []), (54, []), (55, []), (56, []), (57, []), (58, []), (59, []), (60, []), (61, []), (62, []), (63, []), (64, []), (65, [])])]), (11, [(2, [(0, []), (1, []), (2, []), (4, []), (3, [0, 4]), (5, [0]), (6, []), (7, [])])]), (13, [(10, [(0, []), (1, []), (2, []), (3, []), (4, []), (5, []), (6, []), (7, []), (8, []), (9, []), (10, []), (11, []), (12, []), (13, []), (14, []), (15, []), (16, []), (17, []), (18, []), (19, []), (20, []), (21, [])])]), (14, [(5, [(0, []), (1, []), (2, []), (3, []), (4, []), (5, []), (6, []), (7, []), (8, []), (9, []), (10, []), (11, []), (12, []), (13, []), (14, []), (15, []), (16, [])])]), (18, [(6, [(0, []), (1, []), (2, []), (3, []), (4, []), (5, []), (6, []), (7, []), (8, []), (9, [])])]), (19, [(11, [(0, []), (1, []), (2, []), (3, []), (4, []), (5, []), (6, []), (7, []), (8, []), (9, []), (10, []), (11, []), (12, []), (13, []), (14, []), (15, []), (16, []), (17, []), (18, []), (19, []), (20, []), (21, [3, 8, 11]), (22, []), (23, []), (24, [])]), (18, [(0, []), (1, []), (2, []), (3, []), (4, []), (5, []), (6, []), (7, []), (8, []), (9, []), (10, []), (11, []), (12, []), (13, []), (14, []), (15, []), (16, []), (17, []), (18, []), (19, []), (20, []), (21, []), (22, []), (23, []), (24, []), (25, []), (26, []), (27, []), (28, []), (29, []), (30, []), (31, []), (32, []), (33, []), (34, []), (35, [3, 8, 11, 16, 19, 21, 24, 27]), (36, []), (37, []), (38, []), (39, [])])]), (20, [(13, [(0, []), (1, []), (2, []), (3, []), (4, []), (5, []), (6, []), (7, []), (8, []), (9, []), (10, []), (11, []), (12, []), (13, []), (14, []), (15, []), (16, []), (17, []), (18, []), (19, []), (20, []), (21, []), (22, []), (23, []), (24, []), (25, []), (26, []), (29, []), (30, []), (31, []), (32, []), (33, []), (34, []), (35, []), (36, []), (27, [3, 8, 11, 13, 16, 19, 33, 36]), (28, []), (37, []), (38, []), (39, []), (40, [])]), (22, [(0, []), (1, []), (2, []), (3, []), (4, []), (5, []), (6, []), (7, []), (8, []), (9, []), (10, []), (11, []), (12, []), (13, []), (14, []), (15, []), (16, []), (17, []), (18, []), (19, []), (20, []), (21, []), (22, []), (23, []), (24, []), (25, []), (26, []), (27, []), (28, []), (29, []), (30, []), (31, [2, 5, 9, 12, 14]), (32, []), (33, [])]), (24, [(0, []), (1, []), (2, []), (3, []), (4, []), (5, []), (6, []), (7, []), (8, []), (9, []), (10, []), (11, []), (12, []), (13, []), (14, []), (15, [])])]), (23, [(6, [(0, []), (1, []), (2, []), (3, []), (4, []), (5, []), (6, []), (7, []), (8, [])])]), (24, [(1, [(0, []), (1, []), (2, []), (3, []), (4, []), (5, []), (6, []), (7, []), (8, []), (9, []), (10, []), (11, []), (12, []), (13, []), (14, []), (15, [6, 11]), (16, [11]), (17, [])]), (6, [(0, []), (1, []), (2, []), (3, []), (4, []), (5, []), (6, []), (7, []), (8, [1]), (9, [1]), (10, []), (11, []), (12, []), (13, [])]), (7, [(0, []), (1, []), (2, []), (3, []), (4, []), (5, []), (6, []), (7, []), (8, [1]), (9, [1]), (10, []), (11, []), (12, []), (13, [])])]), (25, [(7, [(0, []), (4, []), (1, [4]), (2, [4]), (3, [4]), (5, []), (6, []), (7, []), (8, []), (9, [])])]), (29, [(10, [(0, []), (1, []), (2, []), (3, []), (4, []), (5, [0]), (6, []), (7, []), (8, [])])]), (31, [(15, [(0, []), (1, []), (2, []), (3, []), (4, []), (5, []), (6, []), (7, []), (8, []), (9, []), (10, []), (11, []), (12, []), (13, []), (14, []), (15, []), (16, []), (17, []), (18, [])]), (17, [(0, []), (1, []), (2, [0]), (3, []), (4, []), (5, [])])]), (32, [(6, [(0, []), (1, []), (3, []), (4, []), (2, [3]), (5, []), (6, []), (7, [])]), (15, [(0, []), (1, []), (2, []), (3, []), (4, []), (5, []), (6, []), (7, []), (8, []), (9, []), (10, []), (11, []), (12, []), (13, []), (14, []), (15, []), (16, []), (17, []), (18, [])])]), (33, [(6, [(0, []), (1, []), (2, []), (3, []), (4, []), (5, []), (6, []), (7, []), (8, []), (9, [])])]), (35, [(6, [(0, []), (1, []), (2, []), (3, []), (4, []), (5, []), (6, []), (7, []), (8, [])])]), (43, [(1, [(0, []), (1, []), (3, []), (4, []), (2, [4]), (6, []), (5, []), (7, []), (8, []), (9, [])]), (4, [(0, []), (1, []), (2, []), (3, []), (4, []), (5, []), (6, [4]), (7, [])]), (10, [(0, []), (1, []), (2, []), (3, []), (4, []), (5, []), (6, []), (7, []), (8, []), (9, []), (10, [])]), (12, [(0, []), (1, []), (2, []), (3, []), (4, []), (5, []), (6, []), (7, []), (8, []), (9, [])]), (13, [(0, []), (1, []), (2, []), (3, []), (4, []), (5, []), (6, []), (7, []), (8, [])]), (15, [(0, []), (1, []), (2, []), (3, []), (4, []), (5, []), (6, []), (7, []), (8, []), (9, [])]), (16, [(0, []), (1, []), (2, []), (3, []), (4, []), (5, []), (6, []), (7, []), (8, [])]), (20, [(0, []), (1, []), (2, []), (3, []), (4, []), (5, []), (6, []), (7, []), (8, []), (9, []), (10, []), (11, []), (12, []), (13, []), (14, []), (15, []), (16, []), (17, [1, 4, 5]), (18, []), (19, [])])]), (44, [(1, [(0, []), (1, []), (2, []), (3, []), (4, []), (5, []), (6, []), (7, []), (8, []), (9, []), (10, []), (11, [])]), (5, [(0, []), (1, []), (2, []), (3, []), (4, []), (5, []), (6, []), (7, []), (8, []), (9, []), (10, [])]), (10, [(0, []), (1, []), (2, []), (3, []), (4, []), (5, []), (6, []), (7, []), (8, []), (9, []), (10, [])])]), (50, [(4, [(0, []), (1, []), (2, []), (3, []), (4, []), (5, []), (6, []), (7, []), (8, []), (9, []), (10, []), (11, []), (12, []), (13, []), (14, []), (15, []), (16, [])])]), (51, [(6, [(0, []), (1, []), (2, []), (3, []), (4, []), (5, []), (6, []), (7, []), (8, [])])]), (55, [(6, [(0, []), (1, []), (2, []), (3, []), (4, []), (5, []), (6, []), (7, [])]), (7, [(0, []), (1, []), (2, []), (3, []), (4, []), (5, []), (6, []), (7, []), (8, []), (9, []), (10, []), (11, []), (12, []), (13, []), (14, []), (15, []), (16, []), (17, [])]), (8, [(0, []), (1, []), (2, []), (3, []), (4, []), (5, []), (6, []), (7, []), (8, []), (9, []), (10, []), (11, []), (12, [])])]), (62, [(5, [(0, []), (1, []), (2, []), (3, []), (4, []), (5, []), (6, [4]), (7, []), (8, []), (9, []), (10, [])])]), (64, [(7, [(0, []), (1, []), (2, []), (3, []), (4, []), (5, []), (6, []), (7, []), (8, []), (9, []), (10, []), (11, []), (12, []), (13, []), (14, [])])]), (66, [(3, [(0, []), (2, []), (5, []), (1, [2]), (3, []), (4, []), (6, [])])]), (81, [(8, [(0, []), (1, []), (2, []), (3, []), (4, []), (5, []), (6, []), (7, []), (8, []), (9, []), (10, [0, 2, 5]), (11, []), (12, [0]), (13, []), (14, [])])]), (83, [(3, [(0, []), (1, []), (2, []), (3, []), (4, []), (5, []), (6, []), (7, []), (8, []), (9, []), (10, []), (11, []), (12, []), (13, [])])]), (84, [(7, [(0, []), (1, []), (2, []), (3, []), (4, []), (5, []), (6, []), (7, []), (8, []), (9, []), (10, []), (11, []), (12, []), (13, []), (16, []), (14, [3, 6, 9]), (15, []), (17, []), (18, []), (19, [])])]), (89, [(1, [(0, []), (1, []), (2, []), (3, []), (4, []), (5, []), (6, []), (7, []), (8, []), (9, []), (11, []), (14, []), (16, []), (10, [3, 5, 11, 14, 16]), (12, []), (13, []), (15, [3, 5, 11, 16]), (17, []), (18, []), (19, []), (20, [])])]), (98, [(0, [(0, []), (1, []), (2, []), (3, []), (4, []), (5, [])])]), (102, [(19, [(0, []), (1, []), (2, []), (3, []), (4, []), (5, []), (6, []), (7, []), (8, [])])]), (110, [(8, [(0, []), (1, []), (2, []), (3, []), (4, []), (5, []), (6, []), (7, []), (8, [])]), (9, [(0, []), (1, []), (2, []), (3, []), (4, []), (5, []), (6, []), (7, []), (8, [])])]), (111, [(11, [(0, []), (1, []), (2, []), (3, []), (4, []), (5, []), (6, []), (7, []), (8, []), (9, []), (10, []), (11, [])])])]
noncomputable def C (f : Nat) (l : List Nat) : Code := vT prog f l
noncomputable def O (f : Nat) (l : List Nat) : Array Oper := zR prog f l
noncomputable def R (f : Nat) (l : List Nat) (i : Nat) : bu := Da prog f l i
noncomputable def PA (f : Nat) (l : List Nat) : Array Tmp := Dc prog f l
noncomputable def q (a b : Nat) : Go.Sym.PA := .cell a b
noncomputable def FT (e : E) : E := .and (.le (.il (-9223372036854775808)) e) (.le e (.il 9223372036854775807))
noncomputable def HM (x : E) : E := .snoc (.snoc (.snoc (.snoc .emp (.aN (.ab (.get x (.il 0))))) (.get x (.il 1))) (.get x (.il 2))) (.get x (.il 3))
noncomputable def Z (l : List Nat) : List Go.Sym.PA := l.map fun a => .cell a 0
noncomputable def IB (i x : E) : E := .and (.le (.il 0) i) (.lt i (.len x))
end X
namespace X
open Go Go.a9 Go.Sym
namespace dT
abbrev f : Nat := 86
noncomputable def K : dj := ⟨prog, pl, [], [], []⟩
noncomputable def s0 : au := ⟨⟨86, 12, (m (.int .u64 (.ab (.vv 0))) (l (.int .u64 (.ab (.vv 1)))) z z z), [.code (C 86 [])], [], .run, false, none⟩, [], ⟨0, 2, 2, z⟩⟩
noncomputable def s1 : au := ⟨⟨86, 12, (m (.int .u64 (.iv 0)) (l (.int .u64 (.iv 1))) z z z), [.code (C 86 [1, 0, 0, 0]), .inLoop (C 86 [1, 0, 0, 0]), .inBlock 0, .code (C 86 [1, 1])], [], .run, false, none⟩, [], ⟨0, 2, 2, z⟩⟩
theorem p0 : af K 7 [] s0 s1 [] ⟨[(.ab (.vv 0)), (.ab (.vv 1))], [], [(.vv 0), (.vv 1)], (Z [0, 1])⟩ [] = some (s1, []) := by kernel_rfl
theorem p1 : af K 19 [true] s1 s1 [] ⟨[(.rem (.iv 1) (.iv 0)), (.iv 0)], [], [(.vv 0), (.vv 1)], (Z [0, 1])⟩ [] = some (s1, [.ask (.lt (.il 0) (.iv 0)), .ask (.not (.eq (.iv 0) (.il 0)))]) := by kernel_rfl
theorem p2 : last K 86 14 [false] s1 = some ((.aN (.iv 1)), [.ask (.not (.lt (.il 0) (.iv 0)))]) := by kernel_rfl
theorem b : aW prog 86 = some s0 := by kernel_rfl
end dT
end X
namespace X
open Go Go.a9 Go.Sym
namespace j4
abbrev f : Nat := 87
noncomputable def K : dj := ⟨prog, pl, [(87, 7), (87, 6), (87, 9)], [], []⟩
noncomputable def s0 : au := ⟨⟨87, 10, (l (.int .i64 (.ab (.vv 0)))), [.code (C 87 [])], [], .run, false, none⟩, [], ⟨0, 1, 1, z⟩⟩
theorem p1 : last K 87 19 [false] s0 = some ((.aN (.wrap .u64 (.ab (.vv 0)))), [.ask (.not (.lt (.ab (.vv 0)) (.il 0)))]) := by kernel_rfl
theorem b : aW prog 87 = some s0 := by kernel_rfl
end j4
end X
namespace X
open Go Go.a9 Go.Sym
namespace cn
abbrev f : Nat := 93
noncomputable def K : dj := ⟨prog, pl, [], [], []⟩
noncomputable def s0 : au := ⟨⟨93, 19, (l (.int .i64 (.ab (.vv 0)))), [.code (C 93 [])], [], .run, false, none⟩, [], ⟨0, 1, 1, z⟩⟩
noncomputable def s1 : au := ⟨⟨93, 19, (m (.int .i64 (.iv 0)) z z (l (.view 0)) z), [.code (C 93 [1, 1, 0, 0, 0]), .inLoop (C 93 [1, 1, 0, 0, 0]), .inBlock 0, .code (C 93 [1, 1, 1])], [], .run, false, none⟩, [], ⟨1, 1, 2, (l (.arr 3 (.vv 1) 0))⟩⟩
theorem p0 : af K 11 [] s0 s1 [] ⟨[(.ab (.vv 0))], [], [(.vv 0), .nil], [(q 0 0)]⟩ [(0, none)] = some (s1, []) := by kernel_rfl
theorem p1 : af K 33 [true] s1 s1 [] ⟨[(.quo (.iv 0) (.il 10000))], [], [(.vv 0), (.snoc (.vv 1) (.aN (.max (.rem (.iv 0) (.il 10000)) (.sub (.il 0) (.rem (.iv 0) (.il 10000))))))], [(q 0 0)]⟩ [(0, (some 2))] = some (s1, [.ask (.not (.eq (.iv 0) (.il 0))), .ask (FT (.sub (.il 0) (.rem (.iv 0) (.il 10000)))), .ask (.le (.add (.len (.vv 1)) (.il 1)) (.il 8796093021696)), .ask (FT (.quo (.iv 0) (.il 10000)))]) := by kernel_rfl
theorem p2 : last K 93 14 [false] s1 = some ((.vv 1), [.ask (.not (.not (.eq (.iv 0) (.il 0))))]) := by kernel_rfl
theorem b : aW prog 93 = some s0 := by kernel_rfl
end cn
end X
namespace X
open Go Go.a9 Go.Sym
namespace dw
abbrev f : Nat := 109
noncomputable def K : dj := ⟨prog, pl, [], [], []⟩
noncomputable def s0 : au := ⟨⟨109, 21, (l (.pure 3 (.vv 0) (q 0 0))), [.code (C 109 [])], [], .run, false, none⟩, [], ⟨0, 1, 1, z⟩⟩
noncomputable def s1 : au := ⟨⟨109, 21, (l (.pure 3 (.vv 1) (q 1 0))), [.code (C 109 [1, 0, 0, 0]), .inLoop (C 109 [1, 0, 0, 0]), .inBlock 0, .code (C 109 [1, 1])], [], .run, false, none⟩, [], ⟨0, 2, 2, z⟩⟩
theorem p0 : af K 7 [] s0 s1 [] ⟨[], [], [(.vv 0), (.vv 0)], (Z [0, 0])⟩ [] = some (s1, []) := by kernel_rfl
theorem p1 : af K 29 [true, true] s1 s1 [] ⟨[], [], [(.vv 0), (.cut (.vv 1) (.il 0) (.sub (.len (.vv 1)) (.il 1)))], [(q 0 0), (.sub (q 1 0) (.il 0) (.sub (.len (.vv 1)) (.il 1)) 1)]⟩ [] = some (s1, [.ask (.lt (.il 0) (.len (.vv 1))), .ask (FT (.sub (.len (.vv 1)) (.il 1))), .ask (IB (.sub (.len (.vv 1)) (.il 1)) (.vv 1)), .ask (.eq (.ab (.get (.vv 1) (.sub (.len (.vv 1)) (.il 1)))) (.il 0)), .ask (FT (.sub (.len (.vv 1)) (.il 1))), .ask (.le (.il 0) (.sub (.len (.vv 1)) (.il 1))), .ask (.le (.sub (.len (.vv 1)) (.il 1)) (.len (.vv 1)))]) := by kernel_rfl
theorem p2 : last K 109 24 [true, false] s1 = some ((.vv 1), [.ask (.lt (.il 0) (.len (.vv 1))), .ask (FT (.sub (.len (.vv 1)) (.il 1))), .ask (IB (.sub (.len (.vv 1)) (.il 1)) (.vv 1)), .ask (.not (.eq (.ab (.get (.vv 1) (.sub (.len (.vv 1)) (.il 1)))) (.il 0)))]) := by kernel_rfl
theorem p3 : last K 109 24 [false] s1 = some ((.vv 1), [.ask (.not (.lt (.il 0) (.len (.vv 1))))]) := by kernel_rfl
theorem b : aW prog 109 = some s0 := by kernel_rfl
end dw
end X
namespace X
open Go Go.a9 Go.Sym
namespace br
abbrev f : Nat := 110
noncomputable def K : dj := ⟨prog, pl, [], [], []⟩
noncomputable def s0 : au := ⟨⟨110, 41, (m (.pure 3 (.vv 0) (q 0 0)) (l (.pure 3 (.vv 1) (q 1 0))) z z z), [.code (C 110 [])], [], .run, false, none⟩, [], ⟨0, 2, 2, z⟩⟩
noncomputable def s1 : au := ⟨⟨110, 41, (m (.pure 3 (.vv 0) (q 2 0)) (m (.pure 3 (.vv 1) (q 3 0)) (l (.int .i64 (.iv 0))) z z z) z z z), [.code (C 110 [1, 1, 0, 1, 0, 0]), .inLoop (C 110 [1, 1, 0, 1, 0, 0]), .inBlock 0, .code (C 110 [1, 1, 1])], [], .run, false, none⟩, [], ⟨0, 4, 2, z⟩⟩
theorem p0 : last K 110 29 [true, true] s0 = some ((.aN (.il (-1))), [.ask (.not (.eq (.len (.vv 0)) (.len (.vv 1)))), .ask (.lt (.len (.vv 0)) (.len (.vv 1)))]) := by kernel_rfl
theorem p1 : last K 110 30 [true, false] s0 = some ((.aN (.il 1)), [.ask (.not (.eq (.len (.vv 0)) (.len (.vv 1)))), .ask (.not (.lt (.len (.vv 0)) (.len (.vv 1))))]) := by kernel_rfl
theorem p2 : af K 25 [false] s0 s1 [] ⟨[(.sub (.len (.vv 0)) (.il 1))], [], [(.vv 0), (.vv 1)], (Z [0, 1, 0, 1])⟩ [] = some (s1, [.ask (.not (.not (.eq (.len (.vv 0)) (.len (.vv 1))))), .ask (FT (.sub (.len (.vv 0)) (.il 1)))]) := by kernel_rfl
theorem p3 : last K 110 42 [true, true, true] s1 = some ((.aN (.il (-1))), [.ask (.le (.il 0) (.iv 0)), .ask (IB (.iv 0) (.vv 0)), .ask (IB (.iv 0) (.vv 1)), .ask (.not (.eq (.ab (.get (.vv 0) (.iv 0))) (.ab (.get (.vv 1) (.iv 0))))), .ask (IB (.iv 0) (.vv 0)), .ask (IB (.iv 0) (.vv 1)), .ask (.lt (.ab (.get (.vv 0) (.iv 0))) (.ab (.get (.vv 1) (.iv 0))))]) := by kernel_rfl
theorem p4 : last K 110 43 [true, true, false] s1 = some ((.aN (.il 1)), [.ask (.le (.il 0) (.iv 0)), .ask (IB (.iv 0) (.vv 0)), .ask (IB (.iv 0) (.vv 1)), .ask (.not (.eq (.ab (.get (.vv 0) (.iv 0))) (.ab (.get (.vv 1) (.iv 0))))), .ask (IB (.iv 0) (.vv 0)), .ask (IB (.iv 0) (.vv 1)), .ask (.not (.lt (.ab (.get (.vv 0) (.iv 0))) (.ab (.get (.vv 1) (.iv 0)))))]) := by kernel_rfl
theorem p5 : af K 31 [true, false] s1 s1 [] ⟨[(.sub (.iv 0) (.il 1))], [], [(.vv 0), (.vv 1)], (Z [0, 1, 2, 3])⟩ [] = some (s1, [.ask (.le (.il 0) (.iv 0)), .ask (IB (.iv 0) (.vv 0)), .ask (IB (.iv 0) (.vv 1)), .ask (.not (.not (.eq (.ab (.get (.vv 0) (.iv 0))) (.ab (.get (.vv 1) (.iv 0)))))), .ask (FT (.sub (.iv 0) (.il 1)))]) := by kernel_rfl
theorem p6 : last K 110 13 [false] s1 = some ((.aN (.il 0)), [.ask (.not (.le (.il 0) (.iv 0)))]) := by kernel_rfl
theorem b : aW prog 110 = some s0 := by kernel_rfl
end br
end X
namespace X
open Go Go.a9 Go.Sym
namespace bm
abbrev f : Nat := 111
noncomputable def K : dj := ⟨prog, pl, [], [109], []⟩
noncomputable def s0 : au := ⟨⟨111, 65, (m (.pure 3 (.vv 0) (q 0 0)) (l (.pure 3 (.vv 1) (q 1 0))) z z z), [.code (C 111 [])], [], .run, false, none⟩, [], ⟨0, 2, 2, z⟩⟩
noncomputable def s1 : au := ⟨⟨111, 65, (m (.pure 3 (.vv 0) (q 2 0)) (m (.pure 3 (.vv 1) (q 3 0)) (l (.view 0)) z z z) (n (l (.int .i64 (.iv 0))) z z z) z z), [.code (C 111 [1, 1, 0, 1, 0, 0]), .inLoop (C 111 [1, 1, 0, 1, 0, 0]), .inBlock 0, .code (C 111 [1, 1, 1])], [], .run, false, none⟩, [], ⟨1, 4, 3, (l (.arr 3 (.vv 2) 0))⟩⟩
noncomputable def s2 : au := ⟨⟨111, 65, (m (.pure 3 (.vv 0) (q 4 0)) (m (.pure 3 (.vv 1) (q 5 0)) (l (.view 0)) z z z) (n (l (.int .i64 (.iv 2))) z z z) (n (l (.int .i64 (.iv 0))) z z z) (n (l (.int .i64 (.iv 1))) z z z)), [.code (C 111 [1, 1, 0, 1, 0, 0, 1, 0, 0, 1, 1, 0, 0]), .inLoop (C 111 [1, 1, 0, 1, 0, 0, 1, 0, 0, 1, 1, 0, 0]), .inBlock 2, .inBlock 1, .code (C 111 [1, 1, 0, 1, 0, 0, 1, 1]), .inLoop (C 111 [1, 1, 0, 1, 0, 0]), .inBlock 0, .code (C 111 [1, 1, 1])], [], .run, false, none⟩, [], ⟨1, 6, 3, (l (.arr 3 (.vv 2) 0))⟩⟩
theorem p0 : af K 21 [] s0 s1 [] ⟨[(.il 0)], [], [(.vv 0), (.vv 1), (.rep (.add (.len (.vv 0)) (.len (.vv 1))) (.aN (.il 0)))], (Z [0, 1, 0, 1])⟩ [(0, (some 0))] = some (s1, [.ask (FT (.add (.len (.vv 0)) (.len (.vv 1)))), .ask (.and (.le (.il 0) (.add (.len (.vv 0)) (.len (.vv 1)))) (.le (.add (.len (.vv 0)) (.len (.vv 1))) (.il 17592186044416)))]) := by kernel_rfl
theorem p1 : af K 22 [true] s1 s2 [] ⟨[(.il 0), (.il 0), (.iv 0)], [], [(.vv 0), (.vv 1), (.vv 2)], (Z [0, 1, 2, 3, 2, 3])⟩ [(0, (some 0))] = some (s2, [.ask (.lt (.iv 0) (.len (.vv 0)))]) := by kernel_rfl
theorem p2 : last K 111 17 [false] s1 = some ((.vv 3), [.ask (.not (.lt (.iv 0) (.len (.vv 0)))), .call 109 [(.vv 2)]]) := by kernel_rfl
theorem p3 : af K 74 [true, true] s2 s2 [] ⟨[(.quo (.add (.add (.iv 0) (.ab (.get (.vv 2) (.add (.iv 2) (.iv 1))))) (.mul (.ab (.get (.vv 0) (.iv 2))) (.ab (.get (.vv 1) (.iv 1))))) (.il 10000)), (.add (.iv 1) (.il 1)), (.iv 2)], [], [(.vv 0), (.vv 1), (.set (.vv 2) (.add (.iv 2) (.iv 1)) (.aN (.rem (.add (.add (.iv 0) (.ab (.get (.vv 2) (.add (.iv 2) (.iv 1))))) (.mul (.ab (.get (.vv 0) (.iv 2))) (.ab (.get (.vv 1) (.iv 1))))) (.il 10000))))], (Z [0, 1, 2, 3, 4, 5])⟩ [(0, (some 0))] = some (s2, [.ask (.lt (.iv 1) (.len (.vv 1))), .ask (FT (.add (.iv 2) (.iv 1))), .ask (IB (.add (.iv 2) (.iv 1)) (.vv 2)), .ask (IB (.add (.iv 2) (.iv 1)) (.vv 2)), .ask (FT (.add (.iv 0) (.ab (.get (.vv 2) (.add (.iv 2) (.iv 1)))))), .ask (.lt (.iv 1) (.len (.vv 1))), .ask (IB (.iv 2) (.vv 0)), .ask (IB (.iv 1) (.vv 1)), .ask (FT (.mul (.ab (.get (.vv 0) (.iv 2))) (.ab (.get (.vv 1) (.iv 1))))), .ask (FT (.add (.add (.iv 0) (.ab (.get (.vv 2) (.add (.iv 2) (.iv 1))))) (.mul (.ab (.get (.vv 0) (.iv 2))) (.ab (.get (.vv 1) (.iv 1)))))), .ask (FT (.add (.iv 2) (.iv 1))), .ask (IB (.add (.iv 2) (.iv 1)) (.vv 2)), .ask (IB (.add (.iv 2) (.iv 1)) (.vv 2)), .ask (FT (.quo (.add (.add (.iv 0) (.ab (.get (.vv 2) (.add (.iv 2) (.iv 1))))) (.mul (.ab (.get (.vv 0) (.iv 2))) (.ab (.get (.vv 1) (.iv 1))))) (.il 10000))), .ask (FT (.add (.iv 1) (.il 1)))]) := by kernel_rfl
theorem p6 : af K 61 [false, true, false] s2 s2 [] ⟨[(.quo (.add (.iv 0) (.ab (.get (.vv 2) (.add (.iv 2) (.iv 1))))) (.il 10000)), (.add (.iv 1) (.il 1)), (.iv 2)], [], [(.vv 0), (.vv 1), (.set (.vv 2) (.add (.iv 2) (.iv 1)) (.aN (.rem (.add (.iv 0) (.ab (.get (.vv 2) (.add (.iv 2) (.iv 1))))) (.il 10000))))], (Z [0, 1, 2, 3, 4, 5])⟩ [(0, (some 0))] = some (s2, [.ask (.not (.lt (.iv 1) (.len (.vv 1)))), .ask (.lt (.il 0) (.iv 0)), .ask (FT (.add (.iv 2) (.iv 1))), .ask (IB (.add (.iv 2) (.iv 1)) (.vv 2)), .ask (IB (.add (.iv 2) (.iv 1)) (.vv 2)), .ask (FT (.add (.iv 0) (.ab (.get (.vv 2) (.add (.iv 2) (.iv 1)))))), .ask (.not (.lt (.iv 1) (.len (.vv 1)))), .ask (FT (.add (.iv 2) (.iv 1))), .ask (IB (.add (.iv 2) (.iv 1)) (.vv 2)), .ask (IB (.add (.iv 2) (.iv 1)) (.vv 2)), .ask (FT (.quo (.add (.iv 0) (.ab (.get (.vv 2) (.add (.iv 2) (.iv 1))))) (.il 10000))), .ask (FT (.add (.iv 1) (.il 1)))]) := by kernel_rfl
theorem p7 : af K 21 [false, false] s2 s1 [] ⟨[(.add (.iv 2) (.il 1))], [], [(.vv 0), (.vv 1), (.vv 2)], (Z [0, 1, 4, 5])⟩ [(0, (some 0))] = some (s1, [.ask (.not (.lt (.iv 1) (.len (.vv 1)))), .ask (.not (.lt (.il 0) (.iv 0))), .ask (FT (.add (.iv 2) (.il 1)))]) := by kernel_rfl
theorem b : aW prog 111 = some s0 := by kernel_rfl
end bm
end X
namespace X
open Go Go.a9 Go.Sym
namespace bU
abbrev f : Nat := 112
noncomputable def K : dj := ⟨prog, pl, [], [109], []⟩
noncomputable def s0 : au := ⟨⟨112, 41, (m (.pure 3 (.vv 0) (q 0 0)) (l (.pure 3 (.vv 1) (q 1 0))) z z z), [.code (C 112 [])], [], .run, false, none⟩, [], ⟨0, 2, 2, z⟩⟩
noncomputable def s1 : au := ⟨⟨112, 41, (m (.pure 3 (.vv 0) (q 2 0)) (m (.pure 3 (.vv 1) (q 3 0)) (l (.view 0)) z z z) (n (l (.int .i64 (.iv 0))) z z z) (n (l (.int .i64 (.iv 1))) z z z) z), [.code (C 112 [1, 1, 1, 0, 1, 0, 0]), .inLoop (C 112 [1, 1, 1, 0, 1, 0, 0]), .inBlock 0, .code (C 112 [1, 1, 1, 1])], [], .run, false, none⟩, [], ⟨1, 4, 3, (l (.arr 3 (.vv 2) 0))⟩⟩
theorem p0 : af K 19 [] s0 s1 [] ⟨[(.il 0), (.il 0)], [], [(.vv 0), (.vv 1), .nil], (Z [0, 1, 0, 1])⟩ [(0, none)] = some (s1, []) := by kernel_rfl
theorem p1 : af K 74 [true, true, true] s1 s1 [] ⟨[(.il 1), (.add (.iv 1) (.il 1))], [], [(.vv 0), (.vv 1), (.snoc (.vv 2) (.aN (.add (.sub (.sub (.ab (.get (.vv 0) (.iv 1))) (.iv 0)) (.ab (.get (.vv 1) (.iv 1)))) (.il 10000))))], (Z [0, 1, 2, 3])⟩ [(0, (some 2))] = some (s1, [.ask (.lt (.iv 1) (.len (.vv 0))), .ask (IB (.iv 1) (.vv 0)), .ask (FT (.sub (.ab (.get (.vv 0) (.iv 1))) (.iv 0))), .ask (.lt (.iv 1) (.len (.vv 1))), .ask (IB (.iv 1) (.vv 1)), .ask (FT (.sub (.sub (.ab (.get (.vv 0) (.iv 1))) (.iv 0)) (.ab (.get (.vv 1) (.iv 1))))), .ask (.lt (.sub (.sub (.ab (.get (.vv 0) (.iv 1))) (.iv 0)) (.ab (.get (.vv 1) (.iv 1)))) (.il 0)), .ask (FT (.add (.sub (.sub (.ab (.get (.vv 0) (.iv 1))) (.iv 0)) (.ab (.get (.vv 1) (.iv 1)))) (.il 10000))), .ask (.le (.add (.len (.vv 2)) (.il 1)) (.il 8796093021696)), .ask (FT (.add (.iv 1) (.il 1)))]) := by kernel_rfl
theorem p2 : af K 66 [true, true, false] s1 s1 [] ⟨[(.il 0), (.add (.iv 1) (.il 1))], [], [(.vv 0), (.vv 1), (.snoc (.vv 2) (.aN (.sub (.sub (.ab (.get (.vv 0) (.iv 1))) (.iv 0)) (.ab (.get (.vv 1) (.iv 1))))))], (Z [0, 1, 2, 3])⟩ [(0, (some 2))] = some (s1, [.ask (.lt (.iv 1) (.len (.vv 0))), .ask (IB (.iv 1) (.vv 0)), .ask (FT (.sub (.ab (.get (.vv 0) (.iv 1))) (.iv 0))), .ask (.lt (.iv 1) (.len (.vv 1))), .ask (IB (.iv 1) (.vv 1)), .ask (FT (.sub (.sub (.ab (.get (.vv 0) (.iv 1))) (.iv 0)) (.ab (.get (.vv 1) (.iv 1))))), .ask (.not (.lt (.sub (.sub (.ab (.get (.vv 0) (.iv 1))) (.iv 0)) (.ab (.get (.vv 1) (.iv 1)))) (.il 0))), .ask (.le (.add (.len (.vv 2)) (.il 1)) (.il 8796093021696)), .ask (FT (.add (.iv 1) (.il 1)))]) := by kernel_rfl
theorem p3 : af K 66 [true, false, true] s1 s1 [] ⟨[(.il 1), (.add (.iv 1) (.il 1))], [], [(.vv 0), (.vv 1), (.snoc (.vv 2) (.aN (.add (.sub (.ab (.get (.vv 0) (.iv 1))) (.iv 0)) (.il 10000))))], (Z [0, 1, 2, 3])⟩ [(0, (some 2))] = some (s1, [.ask (.lt (.iv 1) (.len (.vv 0))), .ask (IB (.iv 1) (.vv 0)), .ask (FT (.sub (.ab (.get (.vv 0) (.iv 1))) (.iv 0))), .ask (.not (.lt (.iv 1) (.len (.vv 1)))), .ask (.lt (.sub (.ab (.get (.vv 0) (.iv 1))) (.iv 0)) (.il 0)), .ask (FT (.add (.sub (.ab (.get (.vv 0) (.iv 1))) (.iv 0)) (.il 10000))), .ask (.le (.add (.len (.vv 2)) (.il 1)) (.il 8796093021696)), .ask (FT (.add (.iv 1) (.il 1)))]) := by kernel_rfl
theorem p4 : af K 58 [true, false, false] s1 s1 [] ⟨[(.il 0), (.add (.iv 1) (.il 1))], [], [(.vv 0), (.vv 1), (.snoc (.vv 2) (.aN (.sub (.ab (.get (.vv 0) (.iv 1))) (.iv 0))))], (Z [0, 1, 2, 3])⟩ [(0, (some 2))] = some (s1, [.ask (.lt (.iv 1) (.len (.vv 0))), .ask (IB (.iv 1) (.vv 0)), .ask (FT (.sub (.ab (.get (.vv 0) (.iv 1))) (.iv 0))), .ask (.not (.lt (.iv 1) (.len (.vv 1)))), .ask (.not (.lt (.sub (.ab (.get (.vv 0) (.iv 1))) (.iv 0)) (.il 0))), .ask (.le (.add (.len (.vv 2)) (.il 1)) (.il 8796093021696)), .ask (FT (.add (.iv 1) (.il 1)))]) := by kernel_rfl
theorem p5 : last K 112 17 [false] s1 = some ((.vv 3), [.ask (.not (.lt (.iv 1) (.len (.vv 0)))), .call 109 [(.vv 2)]]) := by kernel_rfl
theorem b : aW prog 112 = some s0 := by kernel_rfl
end bU
end X
namespace X
open Go Go.a9 Go.Sym
namespace az
abbrev f : Nat := 102
noncomputable def K : dj := ⟨prog, pl, [], [109, 110, 111, 112], []⟩
noncomputable def s0 : au := ⟨⟨102, 124, (m (.pure 3 (.vv 0) (q 0 0)) (l (.pure 3 (.vv 1) (q 1 0))) z z z), [.code (C 102 [])], [], .run, false, none⟩, [], ⟨0, 2, 2, z⟩⟩
noncomputable def s1 : au := ⟨⟨102, 124, (m (.pure 3 (.vv 0) (q 2 0)) (m (.pure 3 (.vv 1) (q 3 0)) z (l (.int .i64 (.iv 0))) z z) (n (l (.int .i64 (.sub (.len (.vv 1)) (.il 1)))) z z z) (n (l (.view 0)) z z z) (n (l (.pure 3 (.vv 3) (q 4 0))) z z z)), [.code (C 102 [1, 1, 1, 1, 1, 0, 1, 0, 0]), .inLoop (C 102 [1, 1, 1, 1, 1, 0, 1, 0, 0]), .inBlock 0, .code (C 102 [1, 1, 1, 1, 1, 1])], [], .run, false, none⟩, [], ⟨3, 5, 4, (l (.arr 3 (.vv 2) 0))⟩⟩
noncomputable def s2 : au := ⟨⟨102, 124, (m (.pure 3 (.vv 0) (q 6 0)) (m (.pure 3 (.vv 1) (q 7 0)) z (l (.int .i64 (.iv 3))) z z) (n (l (.int .i64 (.sub (.len (.vv 1)) (.il 1)))) (l (.int .i64 (.iv 0))) z z) (n (l (.view 0)) (l (.int .i64 (.iv 1))) z z) (n (l (.pure 3 (.vv 4) (q 8 0))) (l (.int .i64 (.iv 2))) z z)), [.code (C 102 [1, 1, 1, 1, 1, 0, 1, 0, 0, 1, 0, 0, 1, 1, 0, 1, 0, 0]), .inLoop (C 102 [1, 1, 1, 1, 1, 0, 1, 0, 0, 1, 0, 0, 1, 1, 0, 1, 0, 0]), .inBlock 2, .code (C 102 [1, 1, 1, 1, 1, 0, 1, 0, 0, 1, 0, 0, 1, 1, 1]), .inBlock 1, .code (C 102 [1, 1, 1, 1, 1, 0, 1, 0, 0, 1, 1]), .inLoop (C 102 [1, 1, 1, 1, 1, 0, 1, 0, 0]), .inBlock 0, .code (C 102 [1, 1, 1, 1, 1, 1])], [], .run, false, none⟩, [], ⟨5, 9, 5, (l (.arr 3 (.vv 3) 0))⟩⟩
noncomputable def s3 : au := ⟨⟨102, 124, (m (.pure 3 (.vv 0) (q 9 0)) (m (.pure 3 (.vv 1) (q 10 0)) (n (n (l (.int .i64 (.iv 2))) z z z) z z z) (m (.int .i64 (.iv 9)) (n (l (.int .i64 (.iv 6))) z z z) z z z) (l (.int .i64 (.iv 0))) z) (n (m (.int .i64 (.sub (.len (.vv 1)) (.il 1))) (n (l (.int .i64 (.iv 3))) z z z) z z z) (n (n (l (.int .i64 (.iv 7))) z z z) z z z) (l (.int .i64 (.iv 1))) z) (n (m (.view 0) (n (l (.int .i64 (.iv 4))) z z z) z z z) (n (n (l (.int .i64 (.iv 8))) z z z) z z z) z z) (n (m (.pure 3 (.vv 4) (q 11 0)) (n (l (.int .i64 (.iv 5))) z z z) z z z) z z z)), [.code (C 102 [1, 1, 1, 1, 1, 0, 1, 0, 0, 1, 0, 0, 1, 1, 1, 1, 0, 0, 0]), .inLoop (C 102 [1, 1, 1, 1, 1, 0, 1, 0, 0, 1, 0, 0, 1, 1, 1, 1, 0, 0, 0]), .inBlock 4, .code (C 102 [1, 1, 1, 1, 1, 0, 1, 0, 0, 1, 0, 0, 1, 1, 1, 1, 1]), .inBlock 1, .code (C 102 [1, 1, 1, 1, 1, 0, 1, 0, 0, 1, 1]), .inLoop (C 102 [1, 1, 1, 1, 1, 0, 1, 0, 0]), .inBlock 0, .code (C 102 [1, 1, 1, 1, 1, 1])], [], .run, false, none⟩, [], ⟨5, 12, 5, (l (.arr 3 (.vv 3) 0))⟩⟩
theorem p0 : last K 102 30 [true] s0 = some ((.snoc (.snoc .emp .nil) (.app .emp (.vv 0))), [.ask (FT (.sub (.len (.vv 1)) (.il 1))), .ask (.le (.len (.vv 0)) (.sub (.len (.vv 1)) (.il 1))), .ask (.le (.add (.il 0) (.len (.vv 0))) (.il 8796093021696))]) := by kernel_rfl
theorem p1 : af K 53 [false] s0 s1 [2] ⟨[(.sub (.len (.rep (.sub (.len (.vv 0)) (.sub (.len (.vv 1)) (.il 1))) (.aN (.il 0)))) (.il 1))], [], [(.vv 0), (.vv 1), (.rep (.sub (.len (.vv 0)) (.sub (.len (.vv 1)) (.il 1))) (.aN (.il 0))), (.app .emp (.cut (.vv 0) (.sub (.len (.vv 0)) (.sub (.len (.vv 1)) (.il 1))) (.len (.vv 0))))], (Z [0, 1, 0, 1, 2])⟩ [(0, (some 0))] = some (s1, [.ask (FT (.sub (.len (.vv 1)) (.il 1))), .ask (.not (.le (.len (.vv 0)) (.sub (.len (.vv 1)) (.il 1)))), .ask (FT (.sub (.len (.vv 0)) (.sub (.len (.vv 1)) (.il 1)))), .ask (.and (.le (.il 0) (.sub (.len (.vv 0)) (.sub (.len (.vv 1)) (.il 1)))) (.le (.sub (.len (.vv 0)) (.sub (.len (.vv 1)) (.il 1))) (.il 17592186044416))), .ask (FT (.sub (.len (.vv 0)) (.sub (.len (.vv 1)) (.il 1)))), .ask (.and (.le (.il 0) (.sub (.len (.vv 0)) (.sub (.len (.vv 1)) (.il 1)))) (.le (.sub (.len (.vv 0)) (.sub (.len (.vv 1)) (.il 1))) (.len (.vv 0)))), .ask (.le (.len (.vv 0)) (.len (.vv 0))), .ask (.le (.add (.il 0) (.len (.cut (.vv 0) (.sub (.len (.vv 0)) (.sub (.len (.vv 1)) (.il 1))) (.len (.vv 0))))) (.il 8796093021696)), .ask (FT (.sub (.len (.rep (.sub (.len (.vv 0)) (.sub (.len (.vv 1)) (.il 1))) (.aN (.il 0)))) (.il 1)))]) := by kernel_rfl
theorem p2 : af K 36 [true] s1 s2 [] ⟨[(.il 0), (.il 0), (.add (.sub (.len (.vv 1)) (.il 1)) (.il 1)), (.iv 0)], [], [(.vv 0), (.vv 1), (.vv 2), (.vv 2), (.vv 4)], (Z [0, 1, 2, 3, 4, 5, 2, 3, 6])⟩ [(0, (some 0))] = some (s2, [.ask (.le (.il 0) (.iv 0)), .ask (IB (.iv 0) (.vv 0)), .ask (.le (.add (.il 1) (.len (.vv 3))) (.il 8796093021696)), .call 109 [(.app (.snoc .emp (.aN (.ab (.get (.vv 0) (.iv 0))))) (.vv 3))], .ask (FT (.add (.sub (.len (.vv 1)) (.il 1)) (.il 1)))]) := by kernel_rfl
theorem p3 : last K 102 17 [false] s1 = some ((.snoc (.snoc .emp (.vv 4)) (.vv 3)), [.ask (.not (.le (.il 0) (.iv 0))), .call 109 [(.vv 2)]]) := by kernel_rfl
theorem p4 : af K 61 [true, true, true] s2 s2 [] ⟨[(.add (.mul (.iv 0) (.il 10000)) (.ab (.get (.vv 1) (.iv 2)))), (.add (.mul (.iv 1) (.il 10000)) (.ab (.get (.vv 4) (.iv 2)))), (.sub (.iv 2) (.il 1)), (.iv 3)], [], [(.vv 0), (.vv 1), (.vv 2), (.vv 3), (.vv 4)], (Z [0, 1, 2, 3, 4, 5, 6, 7, 8])⟩ [(0, (some 0))] = some (s2, [.ask (FT (.sub (.sub (.len (.vv 1)) (.il 1)) (.il 1))), .ask (.le (.max (.il 0) (.sub (.sub (.len (.vv 1)) (.il 1)) (.il 1))) (.iv 2)), .ask (FT (.mul (.iv 1) (.il 10000))), .ask (.lt (.iv 2) (.len (.vv 4))), .ask (IB (.iv 2) (.vv 4)), .ask (FT (.add (.mul (.iv 1) (.il 10000)) (.ab (.get (.vv 4) (.iv 2))))), .ask (.le (.iv 2) (.sub (.len (.vv 1)) (.il 1))), .ask (FT (.mul (.iv 0) (.il 10000))), .ask (IB (.iv 2) (.vv 1)), .ask (FT (.add (.mul (.iv 0) (.il 10000)) (.ab (.get (.vv 1) (.iv 2))))), .ask (FT (.sub (.iv 2) (.il 1)))]) := by kernel_rfl
theorem p5 : af K 52 [true, true, false] s2 s2 [] ⟨[(.iv 0), (.add (.mul (.iv 1) (.il 10000)) (.ab (.get (.vv 4) (.iv 2)))), (.sub (.iv 2) (.il 1)), (.iv 3)], [], [(.vv 0), (.vv 1), (.vv 2), (.vv 3), (.vv 4)], (Z [0, 1, 2, 3, 4, 5, 6, 7, 8])⟩ [(0, (some 0))] = some (s2, [.ask (FT (.sub (.sub (.len (.vv 1)) (.il 1)) (.il 1))), .ask (.le (.max (.il 0) (.sub (.sub (.len (.vv 1)) (.il 1)) (.il 1))) (.iv 2)), .ask (FT (.mul (.iv 1) (.il 10000))), .ask (.lt (.iv 2) (.len (.vv 4))), .ask (IB (.iv 2) (.vv 4)), .ask (FT (.add (.mul (.iv 1) (.il 10000)) (.ab (.get (.vv 4) (.iv 2))))), .ask (.not (.le (.iv 2) (.sub (.len (.vv 1)) (.il 1)))), .ask (FT (.sub (.iv 2) (.il 1)))]) := by kernel_rfl
theorem p6 : af K 53 [true, false, true] s2 s2 [] ⟨[(.add (.mul (.iv 0) (.il 10000)) (.ab (.get (.vv 1) (.iv 2)))), (.mul (.iv 1) (.il 10000)), (.sub (.iv 2) (.il 1)), (.iv 3)], [], [(.vv 0), (.vv 1), (.vv 2), (.vv 3), (.vv 4)], (Z [0, 1, 2, 3, 4, 5, 6, 7, 8])⟩ [(0, (some 0))] = some (s2, [.ask (FT (.sub (.sub (.len (.vv 1)) (.il 1)) (.il 1))), .ask (.le (.max (.il 0) (.sub (.sub (.len (.vv 1)) (.il 1)) (.il 1))) (.iv 2)), .ask (FT (.mul (.iv 1) (.il 10000))), .ask (.not (.lt (.iv 2) (.len (.vv 4)))), .ask (.le (.iv 2) (.sub (.len (.vv 1)) (.il 1))), .ask (FT (.mul (.iv 0) (.il 10000))), .ask (IB (.iv 2) (.vv 1)), .ask (FT (.add (.mul (.iv 0) (.il 10000)) (.ab (.get (.vv 1) (.iv 2))))), .ask (FT (.sub (.iv 2) (.il 1)))]) := by kernel_rfl
theorem p7 : af K 44 [true, false, false] s2 s2 [] ⟨[(.iv 0), (.mul (.iv 1) (.il 10000)), (.sub (.iv 2) (.il 1)), (.iv 3)], [], [(.vv 0), (.vv 1), (.vv 2), (.vv 3), (.vv 4)], (Z [0, 1, 2, 3, 4, 5, 6, 7, 8])⟩ [(0, (some 0))] = some (s2, [.ask (FT (.sub (.sub (.len (.vv 1)) (.il 1)) (.il 1))), .ask (.le (.max (.il 0) (.sub (.sub (.len (.vv 1)) (.il 1)) (.il 1))) (.iv 2)), .ask (FT (.mul (.iv 1) (.il 10000))), .ask (.not (.lt (.iv 2) (.len (.vv 4)))), .ask (.not (.le (.iv 2) (.sub (.len (.vv 1)) (.il 1)))), .ask (FT (.sub (.iv 2) (.il 1)))]) := by kernel_rfl
theorem p8 : af K 26 [false] s2 s3 [] ⟨[(.quo (.iv 1) (.add (.iv 0) (.il 1))), (.quo (.iv 1) (.iv 0)), (.iv 1), (.iv 0), (.add (.iv 0) (.il 1)), (.quo (.iv 1) (.add (.iv 0) (.il 1))), (.iv 1), (.iv 0), (.quo (.iv 1) (.iv 0)), (.iv 3)], [], [(.vv 0), (.vv 1), (.vv 2), (.vv 3), (.vv 4)], (Z [0, 1, 2, 3, 4, 5, 6, 7, 8, 6, 7, 8])⟩ [(0, (some 0))] = some (s3, [.ask (FT (.sub (.sub (.len (.vv 1)) (.il 1)) (.il 1))), .ask (.not (.le (.max (.il 0) (.sub (.sub (.len (.vv 1)) (.il 1)) (.il 1))) (.iv 2))), .ask (FT (.add (.iv 0) (.il 1))), .ask (.not (.eq (.add (.iv 0) (.il 1)) (.il 0))), .ask (FT (.quo (.iv 1) (.add (.iv 0) (.il 1)))), .ask (.not (.eq (.iv 0) (.il 0))), .ask (FT (.quo (.iv 1) (.iv 0)))]) := by kernel_rfl
theorem p9 : af K 36 [true, true] s3 s3 [] ⟨[(.quo (.add (.add (.iv 0) (.iv 1)) (.il 1)) (.il 2)), (.iv 1), (.iv 2), (.iv 3), (.iv 4), (.iv 5), (.iv 6), (.iv 7), (.iv 8), (.iv 9)], [], [(.vv 0), (.vv 1), (.vv 2), (.vv 3), (.vv 4)], (Z [0, 1, 2, 3, 4, 5, 6, 7, 8, 9, 10, 11])⟩ [(0, (some 0))] = some (s3, [.ask (.lt (.iv 0) (.iv 1)), .ask (FT (.add (.iv 0) (.iv 1))), .ask (FT (.add (.add (.iv 0) (.iv 1)) (.il 1))), .ask (FT (.quo (.add (.add (.iv 0) (.iv 1)) (.il 1)) (.il 2))), .call 111 [(.vv 1), (.snoc .emp (.aN (.quo (.add (.add (.iv 0) (.iv 1)) (.il 1)) (.il 2))))], .call 110 [(.vv 5), (.vv 4)], .ask (.le (.ab (.vv 6)) (.il 0))]) := by kernel_rfl
theorem CI : af K 37 [true, false] s3 s3 [] ⟨[(.iv 0), (.sub (.quo (.add (.add (.iv 0) (.iv 1)) (.il 1)) (.il 2)) (.il 1)), (.iv 2), (.iv 3), (.iv 4), (.iv 5), (.iv 6), (.iv 7), (.iv 8), (.iv 9)], [], [(.vv 0), (.vv 1), (.vv 2), (.vv 3), (.vv 4)], (Z [0, 1, 2, 3, 4, 5, 6, 7, 8, 9, 10, 11])⟩ [(0, (some 0))] = some (s3, [.ask (.lt (.iv 0) (.iv 1)), .ask (FT (.add (.iv 0) (.iv 1))), .ask (FT (.add (.add (.iv 0) (.iv 1)) (.il 1))), .ask (FT (.quo (.add (.add (.iv 0) (.iv 1)) (.il 1)) (.il 2))), .call 111 [(.vv 1), (.snoc .emp (.aN (.quo (.add (.add (.iv 0) (.iv 1)) (.il 1)) (.il 2))))], .call 110 [(.vv 5), (.vv 4)], .ask (.not (.le (.ab (.vv 6)) (.il 0))), .ask (FT (.sub (.quo (.add (.add (.iv 0) (.iv 1)) (.il 1)) (.il 2)) (.il 1)))]) := by kernel_rfl
theorem D1 : af K 34 [false] s3 s1 [] ⟨[(.sub (.iv 9) (.il 1))], [], [(.vv 0), (.vv 1), (.set (.vv 3) (.iv 9) (.aN (.iv 0))), (.vv 7)], (Z [0, 1, 9, 10, 15])⟩ [(0, (some 0))] = some (s1, [.ask (.not (.lt (.iv 0) (.iv 1))), .ask (IB (.iv 9) (.vv 3)), .ask (IB (.iv 9) (.vv 3)), .call 109 [(.snoc .emp (.aN (.iv 0)))], .call 111 [(.vv 1), (.vv 5)], .call 112 [(.vv 4), (.vv 6)], .ask (FT (.sub (.iv 9) (.il 1)))]) := by kernel_rfl
theorem b : aW prog 102 = some s0 := by kernel_rfl
end az
end X
namespace X
open Go Go.a9 Go.Sym
namespace dI
abbrev f : Nat := 101
noncomputable def K : dj := ⟨prog, pl, [], [102], []⟩
noncomputable def s0 : au := ⟨⟨101, 19, (m (.pure 3 (.vv 0) (q 0 0)) (l (.pure 3 (.vv 1) (q 1 0))) z z z), [.code (C 101 [])], [], .run, false, none⟩, [], ⟨0, 2, 2, z⟩⟩
noncomputable def s1 : au := ⟨⟨101, 19, (m (.pure 3 (.vv 2) (q 2 0)) (l (.pure 3 (.vv 3) (q 3 0))) z z z), [.code (C 101 [1, 0, 0, 0]), .inLoop (C 101 [1, 0, 0, 0]), .inBlock 0, .code (C 101 [1, 1])], [], .run, false, none⟩, [], ⟨0, 4, 4, z⟩⟩
theorem p0 : af K 7 [] s0 s1 [] ⟨[], [], [(.vv 0), (.vv 1), (.vv 0), (.vv 1)], (Z [0, 1, 0, 1])⟩ [] = some (s1, []) := by kernel_rfl
theorem p1 : af K 32 [true] s1 s1 [] ⟨[], [], [(.vv 0), (.vv 1), (.vv 3), (.get (.vv 4) (.il 1))], [(q 0 0), (q 1 0), (q 3 0), (q 4 1)]⟩ [] = some (s1, [.ask (.lt (.il 0) (.len (.vv 3))), .call 102 [(.vv 2), (.vv 3)]]) := by kernel_rfl
theorem p2 : last K 101 15 [false] s1 = some ((.vv 2), [.ask (.not (.lt (.il 0) (.len (.vv 3))))]) := by kernel_rfl
theorem b : aW prog 101 = some s0 := by kernel_rfl
end dI
end X
namespace X
open Go Go.a9 Go.Sym
namespace bT
abbrev f : Nat := 103
noncomputable def K : dj := ⟨prog, pl, [], [93, 110], []⟩
noncomputable def s0 : au := ⟨⟨103, 25, (l (.pure 3 (.vv 0) (q 0 0))), [.code (C 103 [])], [], .run, false, none⟩, [], ⟨0, 1, 1, z⟩⟩
noncomputable def s1 : au := ⟨⟨103, 25, (m (.pure 3 (.vv 0) (q 3 0)) (n (l (.int .i64 (.iv 1))) z z z) z z (l (.int .i64 (.iv 0)))), [.code (C 103 [1, 1, 1, 0, 1, 0, 0]), .inLoop (C 103 [1, 1, 1, 0, 1, 0, 0]), .inBlock 0, .code (C 103 [1, 1, 1, 1])], [], .run, false, none⟩, [], ⟨0, 4, 3, z⟩⟩
theorem p0 : last K 103 20 [true] s0 = some ((.snoc (.snoc .emp (.aN (.il 0))) (.gN (.bl false))), [.call 93 [(.aN (.il 4611686018427387903))], .call 110 [(.vv 0), (.vv 1)], .ask (.lt (.il 0) (.ab (.vv 2)))]) := by kernel_rfl
theorem p1 : af K 29 [false] s0 s1 [] ⟨[(.il 0), (.sub (.len (.vv 0)) (.il 1))], [], [(.vv 0), (.vv 1), (.vv 2)], (Z [0, 1, 2, 0])⟩ [] = some (s1, [.call 93 [(.aN (.il 4611686018427387903))], .call 110 [(.vv 0), (.vv 1)], .ask (.not (.lt (.il 0) (.ab (.vv 2)))), .ask (FT (.sub (.len (.vv 0)) (.il 1)))]) := by kernel_rfl
theorem p2 : af K 27 [true] s1 s1 [] ⟨[(.add (.mul (.il 10000) (.iv 0)) (.ab (.get (.vv 0) (.iv 1)))), (.sub (.iv 1) (.il 1))], [], [(.vv 0), (.vv 1), (.vv 2)], (Z [0, 1, 2, 3])⟩ [] = some (s1, [.ask (.le (.il 0) (.iv 1)), .ask (FT (.mul (.il 10000) (.iv 0))), .ask (IB (.iv 1) (.vv 0)), .ask (FT (.add (.mul (.il 10000) (.iv 0)) (.ab (.get (.vv 0) (.iv 1))))), .ask (FT (.sub (.iv 1) (.il 1)))]) := by kernel_rfl
theorem p3 : last K 103 15 [false] s1 = some ((.snoc (.snoc .emp (.aN (.iv 0))) (.gN (.bl true))), [.ask (.not (.le (.il 0) (.iv 1)))]) := by kernel_rfl
theorem b : aW prog 103 = some s0 := by kernel_rfl
end bT
end X
namespace X
open Go Go.a9 Go.Sym
namespace b7
abbrev f : Nat := 92
noncomputable def K : dj := ⟨prog, pl, [], [101, 102, 103], []⟩
noncomputable def s0 : au := ⟨⟨92, 51, (m (.bool (.eI (.vv 0))) (l (.pure 3 (.vv 1) (q 1 0))) (l (.pure 3 (.vv 2) (q 2 0))) z z), [.code (C 92 [])], [], .run, false, none⟩, [], ⟨0, 3, 3, z⟩⟩
theorem p0 : last K 92 70 [true] s0 = some ((.snoc (.snoc .emp (.snoc (.snoc .emp (.aN (.il 0))) (.aN (.il 0)))) (.gN (.bl false))), [.call 101 [(.vv 1), (.vv 2)], .call 102 [(.vv 1), (.vv 3)], .call 102 [(.vv 2), (.vv 3)], .call 103 [(.get (.vv 4) (.il 0))], .call 103 [(.get (.vv 5) (.il 0))], .ask (.not (.eI (.get (.vv 6) (.il 1))))]) := by kernel_rfl
theorem p1 : last K 92 70 [false, true] s0 = some ((.snoc (.snoc .emp (.snoc (.snoc .emp (.aN (.il 0))) (.aN (.il 0)))) (.gN (.bl false))), [.call 101 [(.vv 1), (.vv 2)], .call 102 [(.vv 1), (.vv 3)], .call 102 [(.vv 2), (.vv 3)], .call 103 [(.get (.vv 4) (.il 0))], .call 103 [(.get (.vv 5) (.il 0))], .ask (.not (.not (.eI (.get (.vv 6) (.il 1))))), .ask (.not (.eI (.get (.vv 7) (.il 1))))]) := by kernel_rfl
theorem p2 : last K 92 84 [false, false, true] s0 = some ((.snoc (.snoc .emp (.snoc (.snoc .emp (.aN (.sub (.il 0) (.ab (.get (.vv 6) (.il 0)))))) (.aN (.ab (.get (.vv 7) (.il 0)))))) (.gN (.bl true))), [.call 101 [(.vv 1), (.vv 2)], .call 102 [(.vv 1), (.vv 3)], .call 102 [(.vv 2), (.vv 3)], .call 103 [(.get (.vv 4) (.il 0))], .call 103 [(.get (.vv 5) (.il 0))], .ask (.not (.not (.eI (.get (.vv 6) (.il 1))))), .ask (.not (.not (.eI (.get (.vv 7) (.il 1))))), .ask (.eI (.vv 0)), .ask (FT (.sub (.il 0) (.ab (.get (.vv 6) (.il 0)))))]) := by kernel_rfl
theorem p3 : last K 92 80 [false, false, false] s0 = some ((.snoc (.snoc .emp (.snoc (.snoc .emp (.aN (.ab (.get (.vv 6) (.il 0))))) (.aN (.ab (.get (.vv 7) (.il 0)))))) (.gN (.bl true))), [.call 101 [(.vv 1), (.vv 2)], .call 102 [(.vv 1), (.vv 3)], .call 102 [(.vv 2), (.vv 3)], .call 103 [(.get (.vv 4) (.il 0))], .call 103 [(.get (.vv 5) (.il 0))], .ask (.not (.not (.eI (.get (.vv 6) (.il 1))))), .ask (.not (.not (.eI (.get (.vv 7) (.il 1))))), .ask (.not (.eI (.vv 0)))]) := by kernel_rfl
theorem b : aW prog 92 = some s0 := by kernel_rfl
end b7
end X
namespace X
open Go Go.a9 Go.Sym
namespace iO
abbrev f : Nat := 72
noncomputable def K : dj := ⟨prog, pl, [], [92, 93], []⟩
noncomputable def s0 : au := ⟨⟨72, 18, (m (.int .i64 (.ab (.vv 0))) (l (.int .i64 (.ab (.vv 1)))) z z z), [.code (C 72 [])], [], .run, false, none⟩, [], ⟨0, 2, 2, z⟩⟩
theorem p0 : last K 72 23 [] s0 = some ((.snoc (.snoc .emp (.snoc (.snoc .emp (.aN (.ab (.get (.get (.vv 4) (.il 0)) (.il 0))))) (.aN (.ab (.get (.get (.vv 4) (.il 0)) (.il 1)))))) (.gN (.eI (.get (.vv 4) (.il 1))))), [.call 93 [(.aN (.ab (.vv 0)))], .call 93 [(.aN (.ab (.vv 1)))], .call 92 [(.gN (.not (.beq (.lt (.ab (.vv 0)) (.il 0)) (.lt (.ab (.vv 1)) (.il 0))))), (.vv 2), (.vv 3)]]) := by kernel_rfl
theorem b : aW prog 72 = some s0 := by kernel_rfl
end iO
end X
namespace X
open Go Go.a9 Go.Sym
namespace iN
abbrev f : Nat := 34
noncomputable def K : dj := ⟨prog, pl, [], [72], []⟩
noncomputable def s0 : au := ⟨⟨34, 14, (m (.int .i64 (.ab (.vv 0))) (l (.int .i64 (.ab (.vv 1)))) z z z), [.code (C 34 [])], [], .run, false, none⟩, [], ⟨0, 2, 2, z⟩⟩
theorem p0 : last K 34 22 [] s0 = some ((.snoc (.snoc .emp (.aN (.ab (.get (.get (.vv 2) (.il 0)) (.il 0))))) (.aN (.ab (.get (.get (.vv 2) (.il 0)) (.il 1))))), [.call 72 [(.aN (.ab (.vv 0))), (.aN (.ab (.vv 1)))]]) := by kernel_rfl
theorem b : aW prog 34 = some s0 := by kernel_rfl
end iN
end X
namespace X
open Go Go.a9 Go.Sym
namespace eA
abbrev f : Nat := 66
noncomputable def K : dj := ⟨prog, pl, [], [86, 87], []⟩
noncomputable def s0 : au := ⟨⟨66, 19, (m (.int .i64 (.ab (.vv 0))) (l (.int .i64 (.ab (.vv 1)))) z z z), [.code (C 66 [])], [], .run, false, none⟩, [], ⟨0, 2, 2, z⟩⟩
theorem p4 : last K 66 207 [false, true, false, false, false] s0 = some ((.snoc (.snoc .emp (.snoc (.snoc .emp (.aN (.quo (.ab (.vv 5)) (.ab (.vv 4))))) (.aN (.quo (.ab (.vv 6)) (.ab (.vv 4)))))) (.aN (.il 0))), [.ask (.not (.eq (.ab (.vv 1)) (.il 0))), .call 87 [(.aN (.ab (.vv 0)))], .call 87 [(.aN (.ab (.vv 1)))], .call 86 [(.aN (.ab (.vv 2))), (.aN (.ab (.vv 3)))], .ask (.not (.eq (.ab (.vv 0)) (.il 0))), .call 87 [(.aN (.ab (.vv 0)))], .ask (.not (.eq (.ab (.vv 4)) (.il 0))), .ask (.and (.le (.il 0) (.quo (.ab (.vv 5)) (.ab (.vv 4)))) (.le (.quo (.ab (.vv 5)) (.ab (.vv 4))) (.il 18446744073709551615))), .call 87 [(.aN (.ab (.vv 1)))], .ask (.not (.eq (.ab (.vv 4)) (.il 0))), .ask (.and (.le (.il 0) (.quo (.ab (.vv 6)) (.ab (.vv 4)))) (.le (.quo (.ab (.vv 6)) (.ab (.vv 4))) (.il 18446744073709551615))), .ask (.not (.lt (.il 4611686018427387903) (.quo (.ab (.vv 5)) (.ab (.vv 4))))), .ask (.not (.lt (.il 4611686018427387903) (.quo (.ab (.vv 6)) (.ab (.vv 4))))), .ask (.not (.not (.beq (.lt (.ab (.vv 0)) (.il 0)) (.lt (.ab (.vv 1)) (.il 0))))), .ask (FT (.quo (.ab (.vv 5)) (.ab (.vv 4)))), .ask (FT (.quo (.ab (.vv 6)) (.ab (.vv 4))))]) := by kernel_rfl
theorem p7 : last K 66 207 [false, false, false, false] s0 = some ((.snoc (.snoc .emp (.snoc (.snoc .emp (.aN (.quo (.ab (.vv 5)) (.ab (.vv 4))))) (.aN (.quo (.ab (.vv 6)) (.ab (.vv 4)))))) (.aN (.il 0))), [.ask (.not (.eq (.ab (.vv 1)) (.il 0))), .call 87 [(.aN (.ab (.vv 0)))], .call 87 [(.aN (.ab (.vv 1)))], .call 86 [(.aN (.ab (.vv 2))), (.aN (.ab (.vv 3)))], .ask (.not (.not (.eq (.ab (.vv 0)) (.il 0)))), .call 87 [(.aN (.ab (.vv 0)))], .ask (.not (.eq (.ab (.vv 4)) (.il 0))), .ask (.and (.le (.il 0) (.quo (.ab (.vv 5)) (.ab (.vv 4)))) (.le (.quo (.ab (.vv 5)) (.ab (.vv 4))) (.il 18446744073709551615))), .call 87 [(.aN (.ab (.vv 1)))], .ask (.not (.eq (.ab (.vv 4)) (.il 0))), .ask (.and (.le (.il 0) (.quo (.ab (.vv 6)) (.ab (.vv 4)))) (.le (.quo (.ab (.vv 6)) (.ab (.vv 4))) (.il 18446744073709551615))), .ask (.not (.lt (.il 4611686018427387903) (.quo (.ab (.vv 5)) (.ab (.vv 4))))), .ask (.not (.lt (.il 4611686018427387903) (.quo (.ab (.vv 6)) (.ab (.vv 4))))), .ask (FT (.quo (.ab (.vv 5)) (.ab (.vv 4)))), .ask (FT (.quo (.ab (.vv 6)) (.ab (.vv 4))))]) := by kernel_rfl
theorem b : aW prog 66 = some s0 := by kernel_rfl
end eA
end X
namespace X
open Go Go.a9 Go.Sym
namespace eZ
abbrev f : Nat := 63
noncomputable def K : dj := ⟨prog, pl, [], [], []⟩
noncomputable def s0 : au := ⟨⟨63, 42, (m (.int .i64 (.ab (.vv 0))) (l (.int .i64 (.ab (.vv 1)))) (l (.pure 5 (.vv 2) (q 2 0))) z z), [.code (C 63 [])], [], .run, false, none⟩, [], ⟨0, 3, 3, z⟩⟩
noncomputable def s1 : au := ⟨⟨63, 42, (m (.int .i64 (.ab (.vv 0))) (n z (l (.int .i64 (.iv 1))) z z) (l (.pure 5 (.vv 2) (q 3 0))) (n (l (.view 0)) z z z) (n (l (.int .i64 (.iv 0))) z z z)), [.code (C 63 [1, 1, 1, 0, 1, 0, 0]), .inLoop (C 63 [1, 1, 1, 0, 1, 0, 0]), .inBlock 0, .code (C 63 [1, 1, 1, 1])], [], .run, false, none⟩, [], ⟨1, 4, 4, (l (.arr 3 (.vv 3) 0))⟩⟩
theorem p0 : af K 20 [] s0 s1 [] ⟨[(.ab (.vv 1)), (.il 0)], [], [(.vv 0), (.vv 1), (.vv 2), .nil], (Z [0, 1, 2, 2])⟩ [(0, none)] = some (s1, []) := by kernel_rfl
theorem p1 : af K 69 [true, true, true] s1 s1 [] ⟨[(.sub (.iv 0) (.rem (.ab (.get (.vv 2) (.iv 1))) (.add (.iv 0) (.il 1)))), (.add (.iv 1) (.il 1))], [], [(.vv 0), (.vv 1), (.vv 2), (.snoc (.vv 3) (.aN (.rem (.ab (.get (.vv 2) (.iv 1))) (.add (.iv 0) (.il 1)))))], (Z [0, 1, 2, 3])⟩ [(0, (some 2))] = some (s1, [.ask (.lt (.iv 1) (.ab (.vv 0))), .ask (FT (.sub (.ab (.vv 0)) (.il 1))), .ask (.lt (.iv 1) (.sub (.ab (.vv 0)) (.il 1))), .ask (.lt (.iv 1) (.len (.vv 2))), .ask (IB (.iv 1) (.vv 2)), .ask (FT (.ab (.get (.vv 2) (.iv 1)))), .ask (FT (.add (.iv 0) (.il 1))), .ask (.not (.eq (.add (.iv 0) (.il 1)) (.il 0))), .ask (.le (.add (.len (.vv 3)) (.il 1)) (.il 8796093021696)), .ask (FT (.sub (.iv 0) (.rem (.ab (.get (.vv 2) (.iv 1))) (.add (.iv 0) (.il 1))))), .ask (FT (.add (.iv 1) (.il 1)))]) := by kernel_rfl
theorem p2 : af K 59 [true, true, false] s1 s1 [] ⟨[(.sub (.iv 0) (.il 0)), (.add (.iv 1) (.il 1))], [], [(.vv 0), (.vv 1), (.vv 2), (.snoc (.vv 3) (.aN (.il 0)))], (Z [0, 1, 2, 3])⟩ [(0, (some 2))] = some (s1, [.ask (.lt (.iv 1) (.ab (.vv 0))), .ask (FT (.sub (.ab (.vv 0)) (.il 1))), .ask (.lt (.iv 1) (.sub (.ab (.vv 0)) (.il 1))), .ask (.not (.lt (.iv 1) (.len (.vv 2)))), .ask (.le (.add (.len (.vv 3)) (.il 1)) (.il 8796093021696)), .ask (FT (.sub (.iv 0) (.il 0))), .ask (FT (.add (.iv 1) (.il 1)))]) := by kernel_rfl
theorem p3 : af K 47 [true, false] s1 s1 [] ⟨[(.sub (.iv 0) (.iv 0)), (.add (.iv 1) (.il 1))], [], [(.vv 0), (.vv 1), (.vv 2), (.snoc (.vv 3) (.aN (.iv 0)))], (Z [0, 1, 2, 3])⟩ [(0, (some 2))] = some (s1, [.ask (.lt (.iv 1) (.ab (.vv 0))), .ask (FT (.sub (.ab (.vv 0)) (.il 1))), .ask (.not (.lt (.iv 1) (.sub (.ab (.vv 0)) (.il 1)))), .ask (.le (.add (.len (.vv 3)) (.il 1)) (.il 8796093021696)), .ask (FT (.sub (.iv 0) (.iv 0))), .ask (FT (.add (.iv 1) (.il 1)))]) := by kernel_rfl
theorem p4 : last K 63 15 [false] s1 = some ((.vv 3), [.ask (.not (.lt (.iv 1) (.ab (.vv 0))))]) := by kernel_rfl
theorem b : aW prog 63 = some s0 := by kernel_rfl
end eZ
end X
namespace X
open Go Go.a9 Go.Sym
namespace fD
abbrev f : Nat := 64
noncomputable def K : dj := ⟨prog, pl, [], [], []⟩
noncomputable def s0 : au := ⟨⟨64, 30, (m (.agg [(.int .u8 (.ab (.get (.vv 0) (.il 0)))), (.int .u8 (.ab (.get (.vv 0) (.il 1)))), (.int .u8 (.ab (.get (.vv 0) (.il 2)))), (.pure 5 (.get (.vv 0) (.il 3)) (q 0 3)), (.pure 5 (.get (.vv 0) (.il 4)) (q 0 4))]) (l (.int .i64 (.ab (.vv 1)))) z z z), [.code (C 64 [])], [], .run, false, none⟩, [], ⟨0, 2, 2, z⟩⟩
noncomputable def s1 : au := ⟨⟨64, 30, (n (m (.int .i64 (.ab (.vv 1))) (l (.view 1)) z z z) (m (.addr 0 0) (l (.int .i64 (.iv 0))) z z z) z z), [.code (C 64 [1, 1, 1, 0, 1, 0, 0]), .inLoop (C 64 [1, 1, 1, 0, 1, 0, 0]), .inBlock 0, .code (C 64 [1, 1, 1, 1])], [], .run, false, none⟩, [], ⟨2, 4, 3, (m (.cells [(.int .u8 (.ab (.get (.vv 0) (.il 0)))), (.int .u8 (.ab (.get (.vv 0) (.il 1)))), (.int .u8 (.ab (.get (.vv 0) (.il 2)))), (.pure 5 (.get (.vv 0) (.il 3)) (q 2 0)), (.pure 5 (.get (.vv 0) (.il 4)) (q 3 0))]) (l (.arr 5 (.vv 2) 0)) z z z)⟩⟩
theorem p0 : last K 64 19 [true] s0 = some (.nil, [.ask (.eq (.len (.get (.vv 0) (.il 3))) (.il 0))]) := by kernel_rfl
theorem p1 : af K 26 [false] s0 s1 [] ⟨[(.il 0)], [], [(.vv 0), (.vv 1), .nil], [(q 0 0), (q 1 0), (q 0 3), (q 0 4)]⟩ [(0, (some 0)), (1, none)] = some (s1, [.ask (.not (.eq (.len (.get (.vv 0) (.il 3))) (.il 0)))]) := by kernel_rfl
theorem p2 : af K 34 [true] s1 s1 [] ⟨[(.add (.iv 0) (.il 1))], [], [(.vv 0), (.vv 1), (.snoc (.vv 2) (.aN (.ab (.get (.get (.vv 0) (.il 3)) (.rem (.add (.ab (.vv 1)) (.iv 0)) (.len (.get (.vv 0) (.il 3))))))))], (Z [0, 1, 2, 3])⟩ [(0, (some 0)), (1, (some 3))] = some (s1, [.ask (.lt (.iv 0) (.il 4)), .ask (FT (.add (.ab (.vv 1)) (.iv 0))), .ask (.not (.eq (.len (.get (.vv 0) (.il 3))) (.il 0))), .ask (IB (.rem (.add (.ab (.vv 1)) (.iv 0)) (.len (.get (.vv 0) (.il 3)))) (.get (.vv 0) (.il 3))), .ask (.le (.add (.len (.vv 2)) (.il 1)) (.il 70368744177152)), .ask (FT (.add (.iv 0) (.il 1)))]) := by kernel_rfl
theorem p3 : last K 64 14 [false] s1 = some ((.vv 2), [.ask (.not (.lt (.iv 0) (.il 4)))]) := by kernel_rfl
theorem b : aW prog 64 = some s0 := by kernel_rfl
end fD
end X
namespace X
open Go Go.a9 Go.Sym
namespace cL
abbrev f : Nat := 24
noncomputable def K : dj := ⟨prog, pl, [], [64, 63], []⟩
noncomputable def s0 : au := ⟨⟨24, 62, (l (.agg [(.int .u8 (.ab (.get (.vv 0) (.il 0)))), (.int .u8 (.ab (.get (.vv 0) (.il 1)))), (.int .u8 (.ab (.get (.vv 0) (.il 2)))), (.pure 5 (.get (.vv 0) (.il 3)) (q 0 3)), (.pure 5 (.get (.vv 0) (.il 4)) (q 0 4))])), [.code (C 24 [])], [], .run, false, none⟩, [], ⟨0, 1, 1, z⟩⟩
noncomputable def s1 : au := ⟨⟨24, 62, (n (m (.addr 0 0) (l (.int .i64 (.add (.il 1) (.rem (.ab (.get (.vv 0) (.il 2))) (.il 4))))) z z z) (m (.addr 1 0) (l (.addr 2 0)) z z z) (m (.int .i64 (.add (.il 1) (.rem (.ab (.get (.vv 0) (.il 0))) (.il 12)))) (l (.int .i64 (.iv 0))) z z z) (l (.int .i64 (.add (.il 1) (.rem (.ab (.get (.vv 0) (.il 1))) (.il 4)))))), [.code (C 24 [1, 1, 1, 0, 1, 0, 0]), .inLoop (C 24 [1, 1, 1, 0, 1, 0, 0]), .inBlock 0, .code (C 24 [1, 1, 1, 1])], [], .run, false, none⟩, [], ⟨5, 6, 5, (m (.cells [(.int .u8 (.ab (.get (.vv 0) (.il 0)))), (.int .u8 (.ab (.get (.vv 0) (.il 1)))), (.int .u8 (.ab (.get (.vv 0) (.il 2)))), (.pure 5 (.get (.vv 0) (.il 3)) (q 3 0)), (.pure 5 (.get (.vv 0) (.il 4)) (q 4 0))]) (l (.cells [(.int .i64 (.il 0)), .aV, .aV, .aV])) (l (.cells [(.int .i64 (.add (.il 1) (.rem (.ab (.get (.vv 0) (.il 0))) (.il 12)))), (.pure 3 (.vv 2) (q 5 0)), (.view 3), (.view 4)])) (l (.arr 27 (.vv 3) 0)) (l (.arr 27 (.vv 4) 0)))⟩⟩
theorem p0 : af K 45 [] s0 s1 [] ⟨[(.il 0)], [], [(.vv 0), (.vv 1), (.vv 2), .nil, .nil], [(q 0 0), (q 1 0), (q 2 0), (q 0 3), (q 0 4), (q 2 0)]⟩ [(0, (some 0)), (1, (some 1)), (2, (some 2)), (3, none), (4, none)] = some (s1, [.ask (FT (.rem (.ab (.get (.vv 0) (.il 0))) (.il 12))), .ask (FT (.add (.il 1) (.rem (.ab (.get (.vv 0) (.il 0))) (.il 12)))), .ask (FT (.rem (.ab (.get (.vv 0) (.il 1))) (.il 4))), .ask (FT (.add (.il 1) (.rem (.ab (.get (.vv 0) (.il 1))) (.il 4)))), .ask (FT (.rem (.ab (.get (.vv 0) (.il 2))) (.il 4))), .ask (FT (.add (.il 1) (.rem (.ab (.get (.vv 0) (.il 2))) (.il 4)))), .call 64 [(.snoc (.snoc (.snoc (.snoc (.snoc .emp (.aN (.ab (.get (.vv 0) (.il 0))))) (.aN (.ab (.get (.vv 0) (.il 1))))) (.aN (.ab (.get (.vv 0) (.il 2))))) (.get (.vv 0) (.il 3))) (.get (.vv 0) (.il 4))), (.aN (.il 0))], .call 63 [(.aN (.add (.il 1) (.rem (.ab (.get (.vv 0) (.il 1))) (.il 4)))), (.aN (.add (.il 1) (.rem (.ab (.get (.vv 0) (.il 0))) (.il 12)))), (.vv 1)]]) := by kernel_rfl
theorem p1 : af K 51 [true] s1 s1 [] ⟨[(.add (.iv 0) (.il 1))], [], [(.vv 0), (.vv 1), (.vv 2), (.snoc (.vv 3) (.vv 6)), (.snoc (.vv 4) (.vv 8))], (Z [0, 1, 2, 3, 4, 5])⟩ [(0, (some 0)), (1, (some 1)), (2, (some 2)), (3, (some 6)), (4, (some 8))] = some (s1, [.ask (.lt (.iv 0) (.add (.il 1) (.rem (.ab (.get (.vv 0) (.il 1))) (.il 4)))), .ask (FT (.mul (.il 8) (.iv 0))), .ask (FT (.add (.il 4) (.mul (.il 8) (.iv 0)))), .call 64 [(.snoc (.snoc (.snoc (.snoc (.snoc .emp (.aN (.ab (.get (.vv 0) (.il 0))))) (.aN (.ab (.get (.vv 0) (.il 1))))) (.aN (.ab (.get (.vv 0) (.il 2))))) (.get (.vv 0) (.il 3))) (.get (.vv 0) (.il 4))), (.aN (.add (.il 4) (.mul (.il 8) (.iv 0))))], .call 63 [(.aN (.add (.il 1) (.rem (.ab (.get (.vv 0) (.il 1))) (.il 4)))), (.aN (.add (.il 1) (.rem (.ab (.get (.vv 0) (.il 0))) (.il 12)))), (.vv 5)], .ask (.le (.add (.len (.vv 3)) (.il 1)) (.il 2932031006890)), .ask (FT (.mul (.il 8) (.iv 0))), .ask (FT (.add (.il 8) (.mul (.il 8) (.iv 0)))), .call 64 [(.snoc (.snoc (.snoc (.snoc (.snoc .emp (.aN (.ab (.get (.vv 0) (.il 0))))) (.aN (.ab (.get (.vv 0) (.il 1))))) (.aN (.ab (.get (.vv 0) (.il 2))))) (.get (.vv 0) (.il 3))) (.get (.vv 0) (.il 4))), (.aN (.add (.il 8) (.mul (.il 8) (.iv 0))))], .call 63 [(.aN (.add (.il 1) (.rem (.ab (.get (.vv 0) (.il 2))) (.il 4)))), (.aN (.add (.il 1) (.rem (.ab (.get (.vv 0) (.il 0))) (.il 12)))), (.vv 7)], .ask (.le (.add (.len (.vv 4)) (.il 1)) (.il 2932031006890)), .ask (FT (.add (.iv 0) (.il 1)))]) := by kernel_rfl
theorem p2 : last K 24 15 [false] s1 = some ((.snoc (.snoc (.snoc (.snoc .emp (.aN (.add (.il 1) (.rem (.ab (.get (.vv 0) (.il 0))) (.il 12))))) (.vv 2)) (.vv 3)) (.vv 4)), [.ask (.not (.lt (.iv 0) (.add (.il 1) (.rem (.ab (.get (.vv 0) (.il 1))) (.il 4)))))]) := by kernel_rfl
theorem b : aW prog 24 = some s0 := by kernel_rfl
end cL
end X
namespace X
open Go Go.a9 Go.Sym
namespace cP
abbrev f : Nat := 14
noncomputable def K : dj := ⟨prog, pl, [], [], []⟩
noncomputable def s0 : au := ⟨⟨14, 37, (l (.agg [(.int .u8 (.ab (.get (.vv 0) (.il 0)))), (.int .u8 (.ab (.get (.vv 0) (.il 1)))), (.int .u8 (.ab (.get (.vv 0) (.il 2)))), (.pure 5 (.get (.vv 0) (.il 3)) (q 0 3)), (.pure 5 (.get (.vv 0) (.il 4)) (q 0 4))])), [.code (C 14 [])], [], .run, false, none⟩, [], ⟨0, 1, 1, z⟩⟩
noncomputable def s1 : au := ⟨⟨14, 37, (n (l (.addr 0 0)) z (l (.view 1)) (l (.int .i64 (.iv 0)))), [.code (C 14 [1, 1, 0, 1, 0, 0]), .inLoop (C 14 [1, 1, 0, 1, 0, 0]), .inBlock 0, .code (C 14 [1, 1, 1])], [], .run, false, none⟩, [], ⟨2, 3, 2, (m (.cells [(.int .u8 (.ab (.get (.vv 0) (.il 0)))), (.int .u8 (.ab (.get (.vv 0) (.il 1)))), (.int .u8 (.ab (.get (.vv 0) (.il 2)))), (.pure 5 (.get (.vv 0) (.il 3)) (q 1 0)), (.pure 5 (.get (.vv 0) (.il 4)) (q 2 0))]) (l (.arr 3 (.vv 1) 0)) z z z)⟩⟩
theorem p0 : af K 16 [] s0 s1 [] ⟨[(.il 0)], [], [(.vv 0), .nil], [(q 0 0), (q 0 3), (q 0 4)]⟩ [(0, (some 0)), (1, none)] = some (s1, []) := by kernel_rfl
theorem p1 : af K 43 [true, true] s1 s1 [] ⟨[(.add (.iv 0) (.il 1))], [], [(.vv 0), (.snoc (.vv 1) (.aN (.sub (.rem (.ab (.get (.get (.vv 0) (.il 4)) (.iv 0))) (.add (.il 2) (.rem (.ab (.get (.vv 0) (.il 2))) (.il 4)))) (.il 1))))], (Z [0, 1, 2])⟩ [(0, (some 0)), (1, (some 3))] = some (s1, [.ask (.lt (.iv 0) (.len (.get (.vv 0) (.il 4)))), .ask (.lt (.iv 0) (.il 8)), .ask (IB (.iv 0) (.get (.vv 0) (.il 4))), .ask (FT (.ab (.get (.get (.vv 0) (.il 4)) (.iv 0)))), .ask (FT (.rem (.ab (.get (.vv 0) (.il 2))) (.il 4))), .ask (FT (.add (.il 2) (.rem (.ab (.get (.vv 0) (.il 2))) (.il 4)))), .ask (.not (.eq (.add (.il 2) (.rem (.ab (.get (.vv 0) (.il 2))) (.il 4))) (.il 0))), .ask (FT (.sub (.rem (.ab (.get (.get (.vv 0) (.il 4)) (.iv 0))) (.add (.il 2) (.rem (.ab (.get (.vv 0) (.il 2))) (.il 4)))) (.il 1))), .ask (.le (.add (.len (.vv 1)) (.il 1)) (.il 8796093021696)), .ask (FT (.add (.iv 0) (.il 1)))]) := by kernel_rfl
theorem p3 : last K 14 30 [true, false, false] s1 = some ((.vv 1), [.ask (.lt (.iv 0) (.len (.get (.vv 0) (.il 4)))), .ask (.not (.lt (.iv 0) (.il 8))), .ask (.not (.eq (.len (.vv 1)) (.il 0)))]) := by kernel_rfl
theorem p4 : last K 14 33 [false, true] s1 = some ((.snoc .emp (.aN (.il (-1)))), [.ask (.not (.lt (.iv 0) (.len (.get (.vv 0) (.il 4))))), .ask (.eq (.len (.vv 1)) (.il 0))]) := by kernel_rfl
theorem p5 : last K 14 30 [false, false] s1 = some ((.vv 1), [.ask (.not (.lt (.iv 0) (.len (.get (.vv 0) (.il 4))))), .ask (.not (.eq (.len (.vv 1)) (.il 0)))]) := by kernel_rfl
theorem b : aW prog 14 = some s0 := by kernel_rfl
end cP
end X
namespace X
open Go Go.a9 Go.Sym
namespace eO
abbrev f : Nat := 78
noncomputable def K : dj := ⟨prog, pl, [(78, 19)], [], []⟩
noncomputable def s0 : au := ⟨⟨78, 22, (l (.pure 27 (.vv 0) (q 0 0))), [.code (C 78 [])], [], .run, false, none⟩, [], ⟨0, 1, 1, z⟩⟩
noncomputable def s1 : au := ⟨⟨78, 22, (m (.pure 27 (.vv 0) (q 1 0)) z z (l (.view 0)) (l (.int .i64 (.iv 0)))), [.code (C 78 [1, 1, 0, 1, 0, 0]), .inLoop (C 78 [1, 1, 0, 1, 0, 0]), .inBlock 0, .code (C 78 [1, 1, 1])], [], .run, false, none⟩, [], ⟨1, 2, 2, (l (.tree 27 (.vv 1) none))⟩⟩
theorem p0 : af K 15 [] s0 s1 [] ⟨[(.il 0)], [], [(.vv 0), .nil], (Z [0, 0])⟩ [(0, none)] = some (s1, []) := by kernel_rfl
theorem p1 : af K 35 [true] s1 s1 [] ⟨[(.add (.iv 0) (.il 1))], [], [(.vv 0), (.snoc (.vv 1) (.app .nil (.get (.vv 0) (.iv 0))))], (Z [0, 1])⟩ [(0, (some 3))] = some (s1, [.ask (.lt (.iv 0) (.len (.vv 0))), .ask (IB (.iv 0) (.vv 0)), .ask (.le (.len (.get (.vv 0) (.iv 0))) (.il 8796093021696)), .ask (.le (.add (.len (.vv 1)) (.il 1)) (.il 2932031006890)), .ask (FT (.add (.iv 0) (.il 1)))]) := by kernel_rfl
theorem p2 : zW K 78 16 [false] s1 = some ((.vv 1), [.ask (.not (.lt (.iv 0) (.len (.vv 0))))]) := by kernel_rfl
theorem b : aW prog 78 = some s0 := by kernel_rfl
end eO
end X
namespace X
open Go Go.a9 Go.Sym
namespace bk
abbrev f : Nat := 43
noncomputable def K : dj := ⟨prog, pl, [], [], [78]⟩
noncomputable def s0 : au := ⟨⟨43, 123, (m (.agg [(.int .u8 (.ab (.get (.vv 0) (.il 0)))), (.int .u8 (.ab (.get (.vv 0) (.il 1)))), (.int .u8 (.ab (.get (.vv 0) (.il 2)))), (.int .i64 (.ab (.get (.vv 0) (.il 3))))]) (l (.agg [(.int .i64 (.ab (.get (.vv 1) (.il 0)))), (.pure 3 (.get (.vv 1) (.il 1)) (q 1 1)), (.pure 27 (.get (.vv 1) (.il 2)) (q 1 2)), (.pure 27 (.get (.vv 1) (.il 3)) (q 1 3))])) z z z), [.code (C 43 [])], [], .run, false, none⟩, [], ⟨0, 2, 2, z⟩⟩
theorem p0 : last K 43 70 [true] s0 = some ((.snoc (.snoc (.snoc (.snoc .emp (.aN (.ab (.get (.vv 0) (.il 3))))) (.app .nil (.get (.vv 1) (.il 1)))) (.vv 2)) (.vv 3)), [.dU 78 [(.get (.vv 1) (.il 2))], .dU 78 [(.get (.vv 1) (.il 3))], .ask (.le (.len (.get (.vv 1) (.il 1))) (.il 8796093021696)), .ask (FT (.ab (.get (.vv 0) (.il 1)))), .ask (FT (.ab (.get (.vv 0) (.il 2)))), .ask (.eq (.rem (.ab (.get (.vv 0) (.il 0))) (.il 8)) (.il 0))]) := by kernel_rfl
theorem p1 : last K 43 83 [false, true] s0 = some ((.snoc (.snoc (.snoc (.snoc .emp (.aN (.ab (.get (.vv 1) (.il 0))))) (.set (.app .nil (.get (.vv 1) (.il 1))) (.rem (.ab (.get (.vv 0) (.il 2))) (.len (.app .nil (.get (.vv 1) (.il 1))))) (.aN (.ab (.get (.vv 0) (.il 3)))))) (.vv 2)) (.vv 3)), [.dU 78 [(.get (.vv 1) (.il 2))], .dU 78 [(.get (.vv 1) (.il 3))], .ask (.le (.len (.get (.vv 1) (.il 1))) (.il 8796093021696)), .ask (FT (.ab (.get (.vv 0) (.il 1)))), .ask (FT (.ab (.get (.vv 0) (.il 2)))), .ask (.not (.eq (.rem (.ab (.get (.vv 0) (.il 0))) (.il 8)) (.il 0))), .ask (.eq (.rem (.ab (.get (.vv 0) (.il 0))) (.il 8)) (.il 1)), .ask (.not (.eq (.len (.app .nil (.get (.vv 1) (.il 1)))) (.il 0))), .ask (IB (.rem (.ab (.get (.vv 0) (.il 2))) (.len (.app .nil (.get (.vv 1) (.il 1))))) (.app .nil (.get (.vv 1) (.il 1)))), .ask (IB (.rem (.ab (.get (.vv 0) (.il 2))) (.len (.app .nil (.get (.vv 1) (.il 1))))) (.app .nil (.get (.vv 1) (.il 1))))]) := by kernel_rfl
theorem p2 : last K 43 100 [false, false, true] s0 = some ((.snoc (.snoc (.snoc (.snoc .emp (.aN (.ab (.get (.vv 1) (.il 0))))) (.app .nil (.get (.vv 1) (.il 1)))) (.set (.vv 2) (.rem (.ab (.get (.vv 0) (.il 1))) (.len (.vv 2))) (.set (.get (.vv 2) (.rem (.ab (.get (.vv 0) (.il 1))) (.len (.vv 2)))) (.rem (.ab (.get (.vv 0) (.il 2))) (.len (.get (.vv 2) (.rem (.ab (.get (.vv 0) (.il 1))) (.len (.vv 2)))))) (.aN (.ab (.get (.vv 0) (.il 3))))))) (.vv 3)), [.dU 78 [(.get (.vv 1) (.il 2))], .dU 78 [(.get (.vv 1) (.il 3))], .ask (.le (.len (.get (.vv 1) (.il 1))) (.il 8796093021696)), .ask (FT (.ab (.get (.vv 0) (.il 1)))), .ask (FT (.ab (.get (.vv 0) (.il 2)))), .ask (.not (.eq (.rem (.ab (.get (.vv 0) (.il 0))) (.il 8)) (.il 0))), .ask (.not (.eq (.rem (.ab (.get (.vv 0) (.il 0))) (.il 8)) (.il 1))), .ask (.eq (.rem (.ab (.get (.vv 0) (.il 0))) (.il 8)) (.il 2)), .ask (.not (.eq (.len (.vv 2)) (.il 0))), .ask (IB (.rem (.ab (.get (.vv 0) (.il 1))) (.len (.vv 2))) (.vv 2)), .ask (IB (.rem (.ab (.get (.vv 0) (.il 1))) (.len (.vv 2))) (.vv 2)), .ask (IB (.rem (.ab (.get (.vv 0) (.il 1))) (.len (.vv 2))) (.vv 2)), .ask (.not (.eq (.len (.get (.vv 2) (.rem (.ab (.get (.vv 0) (.il 1))) (.len (.vv 2))))) (.il 0))), .ask (IB (.rem (.ab (.get (.vv 0) (.il 2))) (.len (.get (.vv 2) (.rem (.ab (.get (.vv 0) (.il 1))) (.len (.vv 2)))))) (.get (.vv 2) (.rem (.ab (.get (.vv 0) (.il 1))) (.len (.vv 2))))), .ask (IB (.rem (.ab (.get (.vv 0) (.il 2))) (.len (.get (.vv 2) (.rem (.ab (.get (.vv 0) (.il 1))) (.len (.vv 2)))))) (.get (.vv 2) (.rem (.ab (.get (.vv 0) (.il 1))) (.len (.vv 2)))))]) := by kernel_rfl
theorem p3 : last K 43 106 [false, false, false, true] s0 = some ((.snoc (.snoc (.snoc (.snoc .emp (.aN (.ab (.get (.vv 1) (.il 0))))) (.app .nil (.get (.vv 1) (.il 1)))) (.vv 2)) (.set (.vv 3) (.rem (.ab (.get (.vv 0) (.il 1))) (.len (.vv 3))) (.set (.get (.vv 3) (.rem (.ab (.get (.vv 0) (.il 1))) (.len (.vv 3)))) (.rem (.ab (.get (.vv 0) (.il 2))) (.len (.get (.vv 3) (.rem (.ab (.get (.vv 0) (.il 1))) (.len (.vv 3)))))) (.aN (.ab (.get (.vv 0) (.il 3))))))), [.dU 78 [(.get (.vv 1) (.il 2))], .dU 78 [(.get (.vv 1) (.il 3))], .ask (.le (.len (.get (.vv 1) (.il 1))) (.il 8796093021696)), .ask (FT (.ab (.get (.vv 0) (.il 1)))), .ask (FT (.ab (.get (.vv 0) (.il 2)))), .ask (.not (.eq (.rem (.ab (.get (.vv 0) (.il 0))) (.il 8)) (.il 0))), .ask (.not (.eq (.rem (.ab (.get (.vv 0) (.il 0))) (.il 8)) (.il 1))), .ask (.not (.eq (.rem (.ab (.get (.vv 0) (.il 0))) (.il 8)) (.il 2))), .ask (.eq (.rem (.ab (.get (.vv 0) (.il 0))) (.il 8)) (.il 3)), .ask (.not (.eq (.len (.vv 3)) (.il 0))), .ask (IB (.rem (.ab (.get (.vv 0) (.il 1))) (.len (.vv 3))) (.vv 3)), .ask (IB (.rem (.ab (.get (.vv 0) (.il 1))) (.len (.vv 3))) (.vv 3)), .ask (IB (.rem (.ab (.get (.vv 0) (.il 1))) (.len (.vv 3))) (.vv 3)), .ask (.not (.eq (.len (.get (.vv 3) (.rem (.ab (.get (.vv 0) (.il 1))) (.len (.vv 3))))) (.il 0))), .ask (IB (.rem (.ab (.get (.vv 0) (.il 2))) (.len (.get (.vv 3) (.rem (.ab (.get (.vv 0) (.il 1))) (.len (.vv 3)))))) (.get (.vv 3) (.rem (.ab (.get (.vv 0) (.il 1))) (.len (.vv 3))))), .ask (IB (.rem (.ab (.get (.vv 0) (.il 2))) (.len (.get (.vv 3) (.rem (.ab (.get (.vv 0) (.il 1))) (.len (.vv 3)))))) (.get (.vv 3) (.rem (.ab (.get (.vv 0) (.il 1))) (.len (.vv 3)))))]) := by kernel_rfl
theorem p4 : last K 43 95 [false, false, false, false, true] s0 = some ((.snoc (.snoc (.snoc (.snoc .emp (.aN (.ab (.get (.vv 1) (.il 0))))) (.app .nil (.get (.vv 1) (.il 1)))) (.cut (.vv 2) (.il 1) (.len (.vv 2)))) (.vv 3)), [.dU 78 [(.get (.vv 1) (.il 2))], .dU 78 [(.get (.vv 1) (.il 3))], .ask (.le (.len (.get (.vv 1) (.il 1))) (.il 8796093021696)), .ask (FT (.ab (.get (.vv 0) (.il 1)))), .ask (FT (.ab (.get (.vv 0) (.il 2)))), .ask (.not (.eq (.rem (.ab (.get (.vv 0) (.il 0))) (.il 8)) (.il 0))), .ask (.not (.eq (.rem (.ab (.get (.vv 0) (.il 0))) (.il 8)) (.il 1))), .ask (.not (.eq (.rem (.ab (.get (.vv 0) (.il 0))) (.il 8)) (.il 2))), .ask (.not (.eq (.rem (.ab (.get (.vv 0) (.il 0))) (.il 8)) (.il 3))), .ask (.eq (.rem (.ab (.get (.vv 0) (.il 0))) (.il 8)) (.il 4)), .ask (.le (.il 1) (.len (.vv 2))), .ask (.le (.len (.vv 2)) (.len (.vv 2)))]) := by kernel_rfl
theorem p5 : last K 43 116 [false, false, false, false, false, true] s0 = some ((.snoc (.snoc (.snoc (.snoc .emp (.aN (.ab (.get (.vv 1) (.il 0))))) (.app .nil (.get (.vv 1) (.il 1)))) (.vv 2)) (.set (.vv 3) (.rem (.ab (.get (.vv 0) (.il 1))) (.len (.vv 3))) (.snoc (.get (.vv 3) (.rem (.ab (.get (.vv 0) (.il 1))) (.len (.vv 3)))) (.aN (.il 0))))), [.dU 78 [(.get (.vv 1) (.il 2))], .dU 78 [(.get (.vv 1) (.il 3))], .ask (.le (.len (.get (.vv 1) (.il 1))) (.il 8796093021696)), .ask (FT (.ab (.get (.vv 0) (.il 1)))), .ask (FT (.ab (.get (.vv 0) (.il 2)))), .ask (.not (.eq (.rem (.ab (.get (.vv 0) (.il 0))) (.il 8)) (.il 0))), .ask (.not (.eq (.rem (.ab (.get (.vv 0) (.il 0))) (.il 8)) (.il 1))), .ask (.not (.eq (.rem (.ab (.get (.vv 0) (.il 0))) (.il 8)) (.il 2))), .ask (.not (.eq (.rem (.ab (.get (.vv 0) (.il 0))) (.il 8)) (.il 3))), .ask (.not (.eq (.rem (.ab (.get (.vv 0) (.il 0))) (.il 8)) (.il 4))), .ask (.eq (.rem (.ab (.get (.vv 0) (.il 0))) (.il 8)) (.il 5)), .ask (.not (.eq (.len (.vv 3)) (.il 0))), .ask (.not (.eq (.len (.vv 3)) (.il 0))), .ask (IB (.rem (.ab (.get (.vv 0) (.il 1))) (.len (.vv 3))) (.vv 3)), .ask (IB (.rem (.ab (.get (.vv 0) (.il 1))) (.len (.vv 3))) (.vv 3)), .ask (IB (.rem (.ab (.get (.vv 0) (.il 1))) (.len (.vv 3))) (.vv 3)), .ask (.le (.add (.len (.get (.vv 3) (.rem (.ab (.get (.vv 0) (.il 1))) (.len (.vv 3))))) (.il 1)) (.il 8796093021696)), .ask (IB (.rem (.ab (.get (.vv 0) (.il 1))) (.len (.vv 3))) (.vv 3)), .ask (IB (.rem (.ab (.get (.vv 0) (.il 1))) (.len (.vv 3))) (.vv 3))]) := by kernel_rfl
theorem p6 : last K 43 108 [false, false, false, false, false, false, true] s0 = some ((.snoc (.snoc (.snoc (.snoc .emp (.aN (.ab (.get (.vv 1) (.il 0))))) (.snoc (.app .nil (.get (.vv 1) (.il 1))) (.aN (.il 0)))) (.vv 2)) (.vv 3)), [.dU 78 [(.get (.vv 1) (.il 2))], .dU 78 [(.get (.vv 1) (.il 3))], .ask (.le (.len (.get (.vv 1) (.il 1))) (.il 8796093021696)), .ask (FT (.ab (.get (.vv 0) (.il 1)))), .ask (FT (.ab (.get (.vv 0) (.il 2)))), .ask (.not (.eq (.rem (.ab (.get (.vv 0) (.il 0))) (.il 8)) (.il 0))), .ask (.not (.eq (.rem (.ab (.get (.vv 0) (.il 0))) (.il 8)) (.il 1))), .ask (.not (.eq (.rem (.ab (.get (.vv 0) (.il 0))) (.il 8)) (.il 2))), .ask (.not (.eq (.rem (.ab (.get (.vv 0) (.il 0))) (.il 8)) (.il 3))), .ask (.not (.eq (.rem (.ab (.get (.vv 0) (.il 0))) (.il 8)) (.il 4))), .ask (.not (.eq (.rem (.ab (.get (.vv 0) (.il 0))) (.il 8)) (.il 5))), .ask (.eq (.rem (.ab (.get (.vv 0) (.il 0))) (.il 8)) (.il 6)), .ask (.le (.add (.len (.app .nil (.get (.vv 1) (.il 1)))) (.il 1)) (.il 8796093021696))]) := by kernel_rfl
theorem p7 : last K 43 104 [false, false, false, false, false, false, false] s0 = some ((.snoc (.snoc (.snoc (.snoc .emp (.aN (.ab (.get (.vv 1) (.il 0))))) (.app .nil (.get (.vv 1) (.il 1)))) (.vv 2)) .nil), [.dU 78 [(.get (.vv 1) (.il 2))], .dU 78 [(.get (.vv 1) (.il 3))], .ask (.le (.len (.get (.vv 1) (.il 1))) (.il 8796093021696)), .ask (FT (.ab (.get (.vv 0) (.il 1)))), .ask (FT (.ab (.get (.vv 0) (.il 2)))), .ask (.not (.eq (.rem (.ab (.get (.vv 0) (.il 0))) (.il 8)) (.il 0))), .ask (.not (.eq (.rem (.ab (.get (.vv 0) (.il 0))) (.il 8)) (.il 1))), .ask (.not (.eq (.rem (.ab (.get (.vv 0) (.il 0))) (.il 8)) (.il 2))), .ask (.not (.eq (.rem (.ab (.get (.vv 0) (.il 0))) (.il 8)) (.il 3))), .ask (.not (.eq (.rem (.ab (.get (.vv 0) (.il 0))) (.il 8)) (.il 4))), .ask (.not (.eq (.rem (.ab (.get (.vv 0) (.il 0))) (.il 8)) (.il 5))), .ask (.not (.eq (.rem (.ab (.get (.vv 0) (.il 0))) (.il 8)) (.il 6)))]) := by kernel_rfl
theorem b : aW prog 43 = some s0 := by kernel_rfl
end bk
end X
namespace X
open Go Go.a9 Go.Sym
namespace iS
abbrev f : Nat := 44
noncomputable def K : dj := ⟨prog, pl, [], [], []⟩
noncomputable def e0 : SV := .int .i64 (.ab (.get (.vv 0) (.il 0)))
noncomputable def s0 : au := ⟨⟨44, 65, (l (.agg [e0, (.pure 3 (.get (.vv 0) (.il 1)) (q 0 1)), (.pure 27 (.get (.vv 0) (.il 2)) (q 0 2)), (.pure 27 (.get (.vv 0) (.il 3)) (q 0 3))])), [.code (C 44 [])], [], .run, false, none⟩, [], ⟨0, 1, 1, z⟩⟩
noncomputable def s1 : au := ⟨⟨44, 65, (n (m (.addr 0 0) z (n (l (.int .i64 (.len (.cut (.get (.vv 0) (.il 2)) (.il 0) (.min (.len (.get (.vv 0) (.il 2))) (.il 6)))))) z z z) z z) (m (.addr 1 0) z (n (l (.int .i64 (.iv 0))) z z z) z z) (l (.addr 2 0)) (n (n (l (.pure 27 (.cut (.get (.vv 0) (.il 2)) (.il 0) (.min (.len (.get (.vv 0) (.il 2))) (.il 6))) (q 5 0))) z z z) z z z)), [.code (C 44 [1, 1, 0, 1, 0, 0]), .inLoop (C 44 [1, 1, 0, 1, 0, 0]), .inBlock 0, .code (C 44 [1, 1, 1])], [], .run, false, none⟩, [], ⟨4, 6, 2, (m (.cells [e0, (.pure 3 (.get (.vv 0) (.il 1)) (q 1 0)), (.pure 27 (.get (.vv 0) (.il 2)) (q 2 0)), (.pure 27 (.get (.vv 0) (.il 3)) (q 3 0))]) (l (.cells [(.int .i64 (.il 0)), .aV, .aV, .aV])) (l (.cells [e0, (.pure 3 (.cut (.get (.vv 0) (.il 1)) (.il 0) (.min (.len (.get (.vv 0) (.il 1))) (.il 6))) (q 4 0)), (.view 3), .aV])) (l (.arr 27 (.vv 1) 0)) z)⟩⟩
noncomputable def s2 : au := ⟨⟨44, 65, (n (n z z z (n z (l (.int .i64 (.iv 0))) z z)) (l (.addr 1 0)) (m (.addr 2 0) z z (n z (l (.pure 27 (.cut (.get (.vv 0) (.il 3)) (.il 0) (.min (.len (.get (.vv 0) (.il 3))) (.il 6))) (q 7 0))) z z) z) (n z z (n z (l (.int .i64 (.len (.cut (.get (.vv 0) (.il 3)) (.il 0) (.min (.len (.get (.vv 0) (.il 3))) (.il 6)))))) z z) z)), [.code (C 44 [1, 1, 1, 0, 1, 0, 0]), .inLoop (C 44 [1, 1, 1, 0, 1, 0, 0]), .inBlock 2, .code (C 44 [1, 1, 1, 1])], [], .run, false, none⟩, [], ⟨5, 8, 3, (n (l (.cells [(.int .i64 (.il 0)), .aV, .aV, .aV])) (l (.cells [e0, (.pure 3 (.cut (.get (.vv 0) (.il 1)) (.il 0) (.min (.len (.get (.vv 0) (.il 1))) (.il 6))) (q 6 0)), (.view 3), (.view 4)])) (l (.arr 27 (.vv 1) 0)) (l (.arr 27 (.vv 2) 0)))⟩⟩
theorem p0 : af K 35 [] s0 s1 [] ⟨[(.il 0)], [], [(.vv 0), .nil], [(q 0 0), (q 0 1), (q 0 2), (q 0 3), (.sub (q 0 1) (.il 0) (.min (.len (.get (.vv 0) (.il 1))) (.il 6)) 1), (.sub (q 0 2) (.il 0) (.min (.len (.get (.vv 0) (.il 2))) (.il 6)) 1)]⟩ [(0, (some 0)), (1, (some 1)), (2, (some 2)), (3, none)] = some (s1, [.ask (.le (.il 0) (.min (.len (.get (.vv 0) (.il 1))) (.il 6))), .ask (.le (.min (.len (.get (.vv 0) (.il 1))) (.il 6)) (.len (.get (.vv 0) (.il 1)))), .ask (.le (.il 0) (.min (.len (.get (.vv 0) (.il 2))) (.il 6))), .ask (.le (.min (.len (.get (.vv 0) (.il 2))) (.il 6)) (.len (.get (.vv 0) (.il 2))))]) := by kernel_rfl
theorem p1 : af K 34 [true] s1 s1 [] ⟨[(.add (.iv 0) (.il 1))], [], [(.vv 0), (.snoc (.vv 1) (.cut (.get (.cut (.get (.vv 0) (.il 2)) (.il 0) (.min (.len (.get (.vv 0) (.il 2))) (.il 6))) (.iv 0)) (.il 0) (.min (.len (.get (.cut (.get (.vv 0) (.il 2)) (.il 0) (.min (.len (.get (.vv 0) (.il 2))) (.il 6))) (.iv 0))) (.il 6))))], (Z [0, 1, 2, 3, 4, 5])⟩ [(0, (some 0)), (1, (some 1)), (2, (some 2)), (3, (some 5))] = some (s1, [.ask (.lt (.iv 0) (.len (.cut (.get (.vv 0) (.il 2)) (.il 0) (.min (.len (.get (.vv 0) (.il 2))) (.il 6))))), .ask (IB (.iv 0) (.cut (.get (.vv 0) (.il 2)) (.il 0) (.min (.len (.get (.vv 0) (.il 2))) (.il 6)))), .ask (.le (.il 0) (.min (.len (.get (.cut (.get (.vv 0) (.il 2)) (.il 0) (.min (.len (.get (.vv 0) (.il 2))) (.il 6))) (.iv 0))) (.il 6))), .ask (.le (.min (.len (.get (.cut (.get (.vv 0) (.il 2)) (.il 0) (.min (.len (.get (.vv 0) (.il 2))) (.il 6))) (.iv 0))) (.il 6)) (.len (.get (.cut (.get (.vv 0) (.il 2)) (.il 0) (.min (.len (.get (.vv 0) (.il 2))) (.il 6))) (.iv 0)))), .ask (.le (.add (.len (.vv 1)) (.il 1)) (.il 2932031006890)), .ask (FT (.add (.iv 0) (.il 1)))]) := by kernel_rfl
theorem p2 : af K 22 [false] s1 s2 [] ⟨[(.il 0)], [], [(.vv 0), (.vv 1), .nil], [(q 0 0), (q 1 0), (q 2 0), (q 3 0), (q 4 0), (q 5 0), (q 4 0), (.sub (q 3 0) (.il 0) (.min (.len (.get (.vv 0) (.il 3))) (.il 6)) 1)]⟩ [(1, (some 1)), (2, (some 2)), (3, (some 3)), (4, none)] = some (s2, [.ask (.not (.lt (.iv 0) (.len (.cut (.get (.vv 0) (.il 2)) (.il 0) (.min (.len (.get (.vv 0) (.il 2))) (.il 6)))))), .ask (.le (.il 0) (.min (.len (.get (.vv 0) (.il 3))) (.il 6))), .ask (.le (.min (.len (.get (.vv 0) (.il 3))) (.il 6)) (.len (.get (.vv 0) (.il 3))))]) := by kernel_rfl
theorem p3 : af K 34 [true] s2 s2 [] ⟨[(.add (.iv 0) (.il 1))], [], [(.vv 0), (.vv 1), (.snoc (.vv 2) (.cut (.get (.cut (.get (.vv 0) (.il 3)) (.il 0) (.min (.len (.get (.vv 0) (.il 3))) (.il 6))) (.iv 0)) (.il 0) (.min (.len (.get (.cut (.get (.vv 0) (.il 3)) (.il 0) (.min (.len (.get (.vv 0) (.il 3))) (.il 6))) (.iv 0))) (.il 6))))], (Z [0, 1, 2, 3, 4, 5, 6, 7])⟩ [(1, (some 1)), (2, (some 2)), (3, (some 3)), (4, (some 6))] = some (s2, [.ask (.lt (.iv 0) (.len (.cut (.get (.vv 0) (.il 3)) (.il 0) (.min (.len (.get (.vv 0) (.il 3))) (.il 6))))), .ask (IB (.iv 0) (.cut (.get (.vv 0) (.il 3)) (.il 0) (.min (.len (.get (.vv 0) (.il 3))) (.il 6)))), .ask (.le (.il 0) (.min (.len (.get (.cut (.get (.vv 0) (.il 3)) (.il 0) (.min (.len (.get (.vv 0) (.il 3))) (.il 6))) (.iv 0))) (.il 6))), .ask (.le (.min (.len (.get (.cut (.get (.vv 0) (.il 3)) (.il 0) (.min (.len (.get (.vv 0) (.il 3))) (.il 6))) (.iv 0))) (.il 6)) (.len (.get (.cut (.get (.vv 0) (.il 3)) (.il 0) (.min (.len (.get (.vv 0) (.il 3))) (.il 6))) (.iv 0)))), .ask (.le (.add (.len (.vv 2)) (.il 1)) (.il 2932031006890)), .ask (FT (.add (.iv 0) (.il 1)))]) := by kernel_rfl
theorem p4 : last K 44 13 [false] s2 = some ((.snoc (.snoc (.snoc (.snoc .emp (.aN (.ab (.get (.vv 0) (.il 0))))) (.cut (.get (.vv 0) (.il 1)) (.il 0) (.min (.len (.get (.vv 0) (.il 1))) (.il 6)))) (.vv 1)) (.vv 2)), [.ask (.not (.lt (.iv 0) (.len (.cut (.get (.vv 0) (.il 3)) (.il 0) (.min (.len (.get (.vv 0) (.il 3))) (.il 6))))))]) := by kernel_rfl
theorem b : aW prog 44 = some s0 := by kernel_rfl
end iS
end X
namespace X
open Go Go.a9 Go.Sym
namespace s9
abbrev f : Nat := 11
noncomputable def K : dj := ⟨prog, pl, [], [24, 43, 44], []⟩
noncomputable def s0 : au := ⟨⟨11, 17, (m (.agg [(.int .u8 (.ab (.get (.vv 0) (.il 0)))), (.int .u8 (.ab (.get (.vv 0) (.il 1)))), (.int .u8 (.ab (.get (.vv 0) (.il 2)))), (.pure 5 (.get (.vv 0) (.il 3)) (q 0 3)), (.pure 5 (.get (.vv 0) (.il 4)) (q 0 4))]) (l (.agg [(.int .u8 (.ab (.get (.vv 1) (.il 0)))), (.int .u8 (.ab (.get (.vv 1) (.il 1)))), (.int .u8 (.ab (.get (.vv 1) (.il 2)))), (.int .i64 (.ab (.get (.vv 1) (.il 3))))])) (l (.agg [(.int .i64 (.ab (.get (.vv 2) (.il 0)))), (.pure 3 (.get (.vv 2) (.il 1)) (q 2 1)), (.pure 27 (.get (.vv 2) (.il 2)) (q 2 2)), (.pure 27 (.get (.vv 2) (.il 3)) (q 2 3))])) z z), [.code (C 11 [])], [], .run, false, none⟩, [], ⟨0, 3, 3, z⟩⟩
theorem p0 : last K 11 26 [] s0 = some ((.snoc (.snoc (.snoc .emp (HM (.vv 3))) (HM (.vv 4))) (HM (.vv 5))), [.call 24 [(.snoc (.snoc (.snoc (.snoc (.snoc .emp (.aN (.ab (.get (.vv 0) (.il 0))))) (.aN (.ab (.get (.vv 0) (.il 1))))) (.aN (.ab (.get (.vv 0) (.il 2))))) (.get (.vv 0) (.il 3))) (.get (.vv 0) (.il 4)))], .call 43 [(.snoc (.snoc (.snoc (.snoc .emp (.aN (.ab (.get (.vv 1) (.il 0))))) (.aN (.ab (.get (.vv 1) (.il 1))))) (.aN (.ab (.get (.vv 1) (.il 2))))) (.aN (.ab (.get (.vv 1) (.il 3))))), (HM (.vv 3))], .call 44 [(HM (.vv 2))]]) := by kernel_rfl
theorem b : aW prog 11 = some s0 := by kernel_rfl
end s9
end X
namespace X
open Go Go.a9 Go.Sym
namespace hU
abbrev f : Nat := 79
noncomputable def K : dj := ⟨prog, pl, [], [], []⟩
noncomputable def s0 : au := ⟨⟨79, 36, (m (.pure 3 (.vv 0) (q 0 0)) (l (.int .i64 (.ab (.vv 1)))) (l (.int .i64 (.ab (.vv 2)))) z z), [.code (C 79 [])], [], .run, false, none⟩, [], ⟨0, 3, 3, z⟩⟩
noncomputable def s1 : au := ⟨⟨79, 36, (m (.pure 3 (.vv 0) (q 3 0)) (l (.int .i64 (.ab (.vv 1)))) (m (.int .i64 (.ab (.vv 2))) z (l (.pure 3 (.vv 0) (q 4 0))) z z) (n (l (.int .i64 (.iv 0))) (l (.int .i64 (.len (.vv 0)))) z z) (n z (l (.int .i64 (.iv 1))) z z)), [.code (C 79 [1, 1, 0, 1, 0, 0]), .inLoop (C 79 [1, 1, 0, 1, 0, 0]), .inBlock 0, .code (C 79 [1, 1, 1])], [], .run, false, none⟩, [], ⟨0, 5, 3, z⟩⟩
theorem p0 : af K 17 [] s0 s1 [] ⟨[(.il 0), (.il 0)], [], [(.vv 0), (.vv 1), (.vv 2)], (Z [0, 1, 2, 0, 0])⟩ [] = some (s1, []) := by kernel_rfl
theorem p1 : last K 79 32 [true, true] s1 = some ((.gN (.bl false)), [.ask (.lt (.iv 1) (.len (.vv 0))), .ask (IB (.iv 1) (.vv 0)), .ask (.lt (.ab (.get (.vv 0) (.iv 1))) (.il 0))]) := by kernel_rfl
theorem p2 : last K 79 32 [true, false, true] s1 = some ((.gN (.bl false)), [.ask (.lt (.iv 1) (.len (.vv 0))), .ask (IB (.iv 1) (.vv 0)), .ask (.not (.lt (.ab (.get (.vv 0) (.iv 1))) (.il 0))), .ask (.lt (.ab (.vv 2)) (.ab (.get (.vv 0) (.iv 1))))]) := by kernel_rfl
theorem p3 : af K 40 [true, false, false] s1 s1 [] ⟨[(.add (.iv 0) (.ab (.get (.vv 0) (.iv 1)))), (.add (.iv 1) (.il 1))], [], [(.vv 0), (.vv 1), (.vv 2)], (Z [0, 1, 2, 3, 4])⟩ [] = some (s1, [.ask (.lt (.iv 1) (.len (.vv 0))), .ask (IB (.iv 1) (.vv 0)), .ask (.not (.lt (.ab (.get (.vv 0) (.iv 1))) (.il 0))), .ask (.not (.lt (.ab (.vv 2)) (.ab (.get (.vv 0) (.iv 1))))), .ask (FT (.add (.iv 0) (.ab (.get (.vv 0) (.iv 1))))), .ask (FT (.add (.iv 1) (.il 1)))]) := by kernel_rfl
theorem p4 : last K 79 21 [false, true] s1 = some ((.gN (.eq (.iv 0) (.ab (.vv 2)))), [.ask (.not (.lt (.iv 1) (.len (.vv 0)))), .ask (.eq (.len (.vv 0)) (.ab (.vv 1)))]) := by kernel_rfl
theorem p5 : last K 79 21 [false, false] s1 = some ((.gN (.bl false)), [.ask (.not (.lt (.iv 1) (.len (.vv 0)))), .ask (.not (.eq (.len (.vv 0)) (.ab (.vv 1))))]) := by kernel_rfl
theorem b : aW prog 79 = some s0 := by kernel_rfl
end hU
end X
namespace X
open Go Go.a9 Go.Sym
namespace lJ
abbrev f : Nat := 80
noncomputable def K : dj := ⟨prog, pl, [], [79], []⟩
noncomputable def s0 : au := ⟨⟨80, 27, (m (.pure 27 (.vv 0) (q 0 0)) (l (.int .i64 (.ab (.vv 1)))) (l (.int .i64 (.ab (.vv 2)))) (l (.int .i64 (.ab (.vv 3)))) z), [.code (C 80 [])], [], .run, false, none⟩, [], ⟨0, 4, 4, z⟩⟩
noncomputable def s1 : au := ⟨⟨80, 27, (m (.pure 27 (.vv 0) (q 4 0)) (m (.int .i64 (.ab (.vv 1))) z z (l (.int .i64 (.iv 0))) z) (l (.int .i64 (.ab (.vv 2)))) (m (.int .i64 (.ab (.vv 3))) z (l (.pure 27 (.vv 0) (q 5 0))) z z) (n z (l (.int .i64 (.len (.vv 0)))) z z)), [.code (C 80 [1, 0, 1, 0, 0]), .inLoop (C 80 [1, 0, 1, 0, 0]), .inBlock 0, .code (C 80 [1, 1])], [], .run, false, none⟩, [], ⟨0, 6, 4, z⟩⟩
theorem p0 : af K 13 [] s0 s1 [] ⟨[(.il 0)], [], [(.vv 0), (.vv 1), (.vv 2), (.vv 3)], (Z [0, 1, 2, 3, 0, 0])⟩ [] = some (s1, []) := by kernel_rfl
theorem p1 : last K 80 29 [true, true] s1 = some ((.gN (.bl false)), [.ask (.lt (.iv 0) (.len (.vv 0))), .ask (IB (.iv 0) (.vv 0)), .call 79 [(.get (.vv 0) (.iv 0)), (.aN (.ab (.vv 2))), (.aN (.ab (.vv 3)))], .ask (.not (.eI (.vv 4)))]) := by kernel_rfl
theorem p2 : af K 31 [true, false] s1 s1 [] ⟨[(.add (.iv 0) (.il 1))], [], [(.vv 0), (.vv 1), (.vv 2), (.vv 3)], (Z [0, 1, 2, 3, 4, 5])⟩ [] = some (s1, [.ask (.lt (.iv 0) (.len (.vv 0))), .ask (IB (.iv 0) (.vv 0)), .call 79 [(.get (.vv 0) (.iv 0)), (.aN (.ab (.vv 2))), (.aN (.ab (.vv 3)))], .ask (.not (.not (.eI (.vv 4)))), .ask (FT (.add (.iv 0) (.il 1)))]) := by kernel_rfl
theorem p3 : last K 80 16 [false] s1 = some ((.gN (.eq (.len (.vv 0)) (.ab (.vv 1)))), [.ask (.not (.lt (.iv 0) (.len (.vv 0))))]) := by kernel_rfl
theorem b : aW prog 80 = some s0 := by kernel_rfl
end lJ
end X
namespace X
open Go Go.a9 Go.Sym
namespace hvalid
abbrev f : Nat := 45
noncomputable def K : dj := ⟨prog, pl, [], [79, 80], []⟩
noncomputable def s0 : au := ⟨⟨45, 68, (l (.agg [(.int .i64 (.ab (.get (.vv 0) (.il 0)))), (.pure 3 (.get (.vv 0) (.il 1)) (q 0 1)), (.pure 27 (.get (.vv 0) (.il 2)) (q 0 2)), (.pure 27 (.get (.vv 0) (.il 3)) (q 0 3))])), [.code (C 45 [])], [], .run, false, none⟩, [], ⟨0, 1, 1, z⟩⟩
theorem p0 : last K 45 45 [true] s0 = some ((.gN (.bl false)), [.ask (.lt (.ab (.get (.vv 0) (.il 0))) (.il 1))]) := by kernel_rfl
theorem p1 : last K 45 45 [false, true] s0 = some ((.gN (.bl false)), [.ask (.not (.lt (.ab (.get (.vv 0) (.il 0))) (.il 1))), .ask (.lt (.il 12) (.ab (.get (.vv 0) (.il 0))))]) := by kernel_rfl
theorem p2 : last K 45 45 [false, false, true] s0 = some ((.gN (.bl false)), [.ask (.not (.lt (.ab (.get (.vv 0) (.il 0))) (.il 1))), .ask (.not (.lt (.il 12) (.ab (.get (.vv 0) (.il 0))))), .ask (.lt (.len (.get (.vv 0) (.il 1))) (.il 1))]) := by kernel_rfl
theorem p3 : last K 45 45 [false, false, false, true] s0 = some ((.gN (.bl false)), [.ask (.not (.lt (.ab (.get (.vv 0) (.il 0))) (.il 1))), .ask (.not (.lt (.il 12) (.ab (.get (.vv 0) (.il 0))))), .ask (.not (.lt (.len (.get (.vv 0) (.il 1))) (.il 1))), .ask (.lt (.il 4) (.len (.get (.vv 0) (.il 1))))]) := by kernel_rfl
theorem p4 : last K 45 45 [false, false, false, false, true] s0 = some ((.gN (.bl false)), [.ask (.not (.lt (.ab (.get (.vv 0) (.il 0))) (.il 1))), .ask (.not (.lt (.il 12) (.ab (.get (.vv 0) (.il 0))))), .ask (.not (.lt (.len (.get (.vv 0) (.il 1))) (.il 1))), .ask (.not (.lt (.il 4) (.len (.get (.vv 0) (.il 1))))), .ask (.not (.eq (.len (.get (.vv 0) (.il 3))) (.len (.get (.vv 0) (.il 1)))))]) := by kernel_rfl
theorem p5 : last K 45 87 [false, false, false, false, false, true, true, true, true] s0 = some ((.gN (.eI (.vv 3))), [.ask (.not (.lt (.ab (.get (.vv 0) (.il 0))) (.il 1))), .ask (.not (.lt (.il 12) (.ab (.get (.vv 0) (.il 0))))), .ask (.not (.lt (.len (.get (.vv 0) (.il 1))) (.il 1))), .ask (.not (.lt (.il 4) (.len (.get (.vv 0) (.il 1))))), .ask (.not (.not (.eq (.len (.get (.vv 0) (.il 3))) (.len (.get (.vv 0) (.il 1)))))), .ask (.lt (.il 0) (.len (.get (.vv 0) (.il 3)))), .ask (.le (.il 1) (.len (.get (.get (.vv 0) (.il 3)) (.il 0)))), .ask (.le (.len (.get (.get (.vv 0) (.il 3)) (.il 0))) (.il 4)), .call 79 [(.get (.vv 0) (.il 1)), (.aN (.len (.get (.vv 0) (.il 1)))), (.aN (.ab (.get (.vv 0) (.il 0))))], .ask (.eI (.vv 1)), .call 80 [(.get (.vv 0) (.il 2)), (.aN (.len (.get (.vv 0) (.il 1)))), (.aN (.len (.get (.vv 0) (.il 1)))), (.aN (.ab (.get (.vv 0) (.il 0))))], .ask (.eI (.vv 2)), .call 80 [(.get (.vv 0) (.il 3)), (.aN (.len (.get (.vv 0) (.il 1)))), (.aN (.len (.get (.get (.vv 0) (.il 3)) (.il 0)))), (.aN (.ab (.get (.vv 0) (.il 0))))]]) := by kernel_rfl
theorem p6 : last K 45 87 [false, false, false, false, false, true, true, true, false] s0 = some ((.gN (.bl false)), [.ask (.not (.lt (.ab (.get (.vv 0) (.il 0))) (.il 1))), .ask (.not (.lt (.il 12) (.ab (.get (.vv 0) (.il 0))))), .ask (.not (.lt (.len (.get (.vv 0) (.il 1))) (.il 1))), .ask (.not (.lt (.il 4) (.len (.get (.vv 0) (.il 1))))), .ask (.not (.not (.eq (.len (.get (.vv 0) (.il 3))) (.len (.get (.vv 0) (.il 1)))))), .ask (.lt (.il 0) (.len (.get (.vv 0) (.il 3)))), .ask (.le (.il 1) (.len (.get (.get (.vv 0) (.il 3)) (.il 0)))), .ask (.le (.len (.get (.get (.vv 0) (.il 3)) (.il 0))) (.il 4)), .call 79 [(.get (.vv 0) (.il 1)), (.aN (.len (.get (.vv 0) (.il 1)))), (.aN (.ab (.get (.vv 0) (.il 0))))], .ask (.eI (.vv 1)), .call 80 [(.get (.vv 0) (.il 2)), (.aN (.len (.get (.vv 0) (.il 1)))), (.aN (.len (.get (.vv 0) (.il 1)))), (.aN (.ab (.get (.vv 0) (.il 0))))], .ask (.not (.eI (.vv 2)))]) := by kernel_rfl
theorem p7 : last K 45 87 [false, false, false, false, false, true, true, false] s0 = some ((.gN (.bl false)), [.ask (.not (.lt (.ab (.get (.vv 0) (.il 0))) (.il 1))), .ask (.not (.lt (.il 12) (.ab (.get (.vv 0) (.il 0))))), .ask (.not (.lt (.len (.get (.vv 0) (.il 1))) (.il 1))), .ask (.not (.lt (.il 4) (.len (.get (.vv 0) (.il 1))))), .ask (.not (.not (.eq (.len (.get (.vv 0) (.il 3))) (.len (.get (.vv 0) (.il 1)))))), .ask (.lt (.il 0) (.len (.get (.vv 0) (.il 3)))), .ask (.le (.il 1) (.len (.get (.get (.vv 0) (.il 3)) (.il 0)))), .ask (.le (.len (.get (.get (.vv 0) (.il 3)) (.il 0))) (.il 4)), .call 79 [(.get (.vv 0) (.il 1)), (.aN (.len (.get (.vv 0) (.il 1)))), (.aN (.ab (.get (.vv 0) (.il 0))))], .ask (.not (.eI (.vv 1)))]) := by kernel_rfl
theorem p8 : last K 45 87 [false, false, false, false, false, true, false] s0 = some ((.gN (.bl false)), [.ask (.not (.lt (.ab (.get (.vv 0) (.il 0))) (.il 1))), .ask (.not (.lt (.il 12) (.ab (.get (.vv 0) (.il 0))))), .ask (.not (.lt (.len (.get (.vv 0) (.il 1))) (.il 1))), .ask (.not (.lt (.il 4) (.len (.get (.vv 0) (.il 1))))), .ask (.not (.not (.eq (.len (.get (.vv 0) (.il 3))) (.len (.get (.vv 0) (.il 1)))))), .ask (.lt (.il 0) (.len (.get (.vv 0) (.il 3)))), .ask (.le (.il 1) (.len (.get (.get (.vv 0) (.il 3)) (.il 0)))), .ask (.not (.le (.len (.get (.get (.vv 0) (.il 3)) (.il 0))) (.il 4)))]) := by kernel_rfl
theorem p9 : last K 45 87 [false, false, false, false, false, false] s0 = some ((.gN (.bl false)), [.ask (.not (.lt (.ab (.get (.vv 0) (.il 0))) (.il 1))), .ask (.not (.lt (.il 12) (.ab (.get (.vv 0) (.il 0))))), .ask (.not (.lt (.len (.get (.vv 0) (.il 1))) (.il 1))), .ask (.not (.lt (.il 4) (.len (.get (.vv 0) (.il 1))))), .ask (.not (.not (.eq (.len (.get (.vv 0) (.il 3))) (.len (.get (.vv 0) (.il 1)))))), .ask (.lt (.il 0) (.len (.get (.vv 0) (.il 3)))), .ask (.not (.le (.il 1) (.len (.get (.get (.vv 0) (.il 3)) (.il 0)))))]) := by kernel_rfl
theorem b : aW prog 45 = some s0 := by kernel_rfl
end hvalid
end X
namespace X
open Go Go.a9 Go.Sym
namespace ph
abbrev f : Nat := 46
noncomputable def K : dj := ⟨prog, pl, [], [], []⟩
noncomputable def s0 : au := ⟨⟨46, 43, (m (.pure 3 (.vv 0) (q 0 0)) (l (.int .i64 (.ab (.vv 1)))) (l (.int .i64 (.ab (.vv 2)))) z z), [.code (C 46 [])], [], .run, false, none⟩, [], ⟨0, 3, 3, z⟩⟩
noncomputable def s1 : au := ⟨⟨46, 43, (m (.pure 3 (.vv 0) (q 3 0)) (l (.int .i64 (.ab (.vv 1)))) (l (.int .i64 (.ab (.vv 2)))) (n (l (.int .i64 (.iv 0))) z z z) (n (l (.int .i64 (.iv 1))) z z z)), [.code (C 46 [1, 1, 0, 1, 0, 0]), .inLoop (C 46 [1, 1, 0, 1, 0, 0]), .inBlock 0, .code (C 46 [1, 1, 1])], [], .run, false, none⟩, [], ⟨0, 4, 3, z⟩⟩
theorem p0 : af K 15 [] s0 s1 [] ⟨[(.il 0), (.il 0)], [], [(.vv 0), (.vv 1), (.vv 2)], (Z [0, 1, 2, 0])⟩ [] = some (s1, []) := by kernel_rfl
theorem p1 : last K 46 35 [true, true] s1 = some ((.gN (.bl false)), [.ask (.lt (.iv 1) (.len (.vv 0))), .ask (IB (.iv 1) (.vv 0)), .ask (.lt (.ab (.get (.vv 0) (.iv 1))) (.il 0))]) := by kernel_rfl
theorem p2 : last K 46 35 [true, false, true] s1 = some ((.gN (.bl false)), [.ask (.lt (.iv 1) (.len (.vv 0))), .ask (IB (.iv 1) (.vv 0)), .ask (.not (.lt (.ab (.get (.vv 0) (.iv 1))) (.il 0))), .ask (IB (.iv 1) (.vv 0)), .ask (.lt (.ab (.vv 2)) (.ab (.get (.vv 0) (.iv 1))))]) := by kernel_rfl
theorem p3 : af K 47 [true, false, false] s1 s1 [] ⟨[(.add (.iv 0) (.ab (.get (.vv 0) (.iv 1)))), (.add (.iv 1) (.il 1))], [], [(.vv 0), (.vv 1), (.vv 2)], (Z [0, 1, 2, 3])⟩ [] = some (s1, [.ask (.lt (.iv 1) (.len (.vv 0))), .ask (IB (.iv 1) (.vv 0)), .ask (.not (.lt (.ab (.get (.vv 0) (.iv 1))) (.il 0))), .ask (IB (.iv 1) (.vv 0)), .ask (.not (.lt (.ab (.vv 2)) (.ab (.get (.vv 0) (.iv 1))))), .ask (IB (.iv 1) (.vv 0)), .ask (FT (.add (.iv 0) (.ab (.get (.vv 0) (.iv 1))))), .ask (FT (.add (.iv 1) (.il 1)))]) := by kernel_rfl
theorem p4 : last K 46 24 [false, true] s1 = some ((.gN (.eq (.iv 0) (.ab (.vv 2)))), [.ask (.not (.lt (.iv 1) (.len (.vv 0)))), .ask (.eq (.len (.vv 0)) (.ab (.vv 1)))]) := by kernel_rfl
theorem p5 : last K 46 24 [false, false] s1 = some ((.gN (.bl false)), [.ask (.not (.lt (.iv 1) (.len (.vv 0)))), .ask (.not (.eq (.len (.vv 0)) (.ab (.vv 1))))]) := by kernel_rfl
theorem b : aW prog 46 = some s0 := by kernel_rfl
end ph
end X
namespace X
open Go Go.a9 Go.Sym
namespace de
abbrev f : Nat := 13
noncomputable def K : dj := ⟨prog, pl, [], [46], []⟩
noncomputable def s0 : au := ⟨⟨13, 86, (l (.agg [(.int .i64 (.ab (.get (.vv 0) (.il 0)))), (.pure 3 (.get (.vv 0) (.il 1)) (q 0 1)), (.pure 27 (.get (.vv 0) (.il 2)) (q 0 2)), (.pure 27 (.get (.vv 0) (.il 3)) (q 0 3))])), [.code (C 13 [])], [], .run, false, none⟩, [], ⟨0, 1, 1, z⟩⟩
noncomputable def s1 : au := ⟨⟨13, 86, (n (m (.addr 0 0) (l (.int .i64 (.iv 0))) z z z) z (l (.int .i64 (.len (.get (.vv 0) (.il 1))))) (l (.int .i64 (.len (.get (.get (.vv 0) (.il 3)) (.il 0)))))), [.code (C 13 [1, 1, 1, 1, 1, 0, 1, 0, 0]), .inLoop (C 13 [1, 1, 1, 1, 1, 0, 1, 0, 0]), .inBlock 0, .code (C 13 [1, 1, 1, 1, 1, 1])], [], .run, false, none⟩, [], ⟨1, 5, 2, (l (.cells [(.int .i64 (.ab (.get (.vv 0) (.il 0)))), (.pure 3 (.get (.vv 0) (.il 1)) (q 2 0)), (.pure 27 (.get (.vv 0) (.il 2)) (q 3 0)), (.pure 27 (.get (.vv 0) (.il 3)) (q 4 0))]))⟩⟩
theorem p0 : last K 13 61 [true] s0 = some ((.gN (.bl false)), [.ask (.lt (.ab (.get (.vv 0) (.il 0))) (.il 1))]) := by kernel_rfl
theorem p1 : last K 13 61 [false, true] s0 = some ((.gN (.bl false)), [.ask (.not (.lt (.ab (.get (.vv 0) (.il 0))) (.il 1))), .ask (.lt (.il 12) (.ab (.get (.vv 0) (.il 0))))]) := by kernel_rfl
theorem p2 : last K 13 61 [false, false, true] s0 = some ((.gN (.bl false)), [.ask (.not (.lt (.ab (.get (.vv 0) (.il 0))) (.il 1))), .ask (.not (.lt (.il 12) (.ab (.get (.vv 0) (.il 0))))), .ask (.lt (.len (.get (.vv 0) (.il 1))) (.il 1))]) := by kernel_rfl
theorem p3 : last K 13 61 [false, false, false, true] s0 = some ((.gN (.bl false)), [.ask (.not (.lt (.ab (.get (.vv 0) (.il 0))) (.il 1))), .ask (.not (.lt (.il 12) (.ab (.get (.vv 0) (.il 0))))), .ask (.not (.lt (.len (.get (.vv 0) (.il 1))) (.il 1))), .ask (.lt (.il 4) (.len (.get (.vv 0) (.il 1))))]) := by kernel_rfl
theorem p4 : last K 13 61 [false, false, false, false, true] s0 = some ((.gN (.bl false)), [.ask (.not (.lt (.ab (.get (.vv 0) (.il 0))) (.il 1))), .ask (.not (.lt (.il 12) (.ab (.get (.vv 0) (.il 0))))), .ask (.not (.lt (.len (.get (.vv 0) (.il 1))) (.il 1))), .ask (.not (.lt (.il 4) (.len (.get (.vv 0) (.il 1))))), .call 46 [(.get (.vv 0) (.il 1)), (.aN (.len (.get (.vv 0) (.il 1)))), (.aN (.ab (.get (.vv 0) (.il 0))))], .ask (.not (.eI (.vv 1)))]) := by kernel_rfl
theorem p5 : last K 13 61 [false, false, false, false, false, true] s0 = some ((.gN (.bl false)), [.ask (.not (.lt (.ab (.get (.vv 0) (.il 0))) (.il 1))), .ask (.not (.lt (.il 12) (.ab (.get (.vv 0) (.il 0))))), .ask (.not (.lt (.len (.get (.vv 0) (.il 1))) (.il 1))), .ask (.not (.lt (.il 4) (.len (.get (.vv 0) (.il 1))))), .call 46 [(.get (.vv 0) (.il 1)), (.aN (.len (.get (.vv 0) (.il 1)))), (.aN (.ab (.get (.vv 0) (.il 0))))], .ask (.not (.not (.eI (.vv 1)))), .ask (.not (.eq (.len (.get (.vv 0) (.il 2))) (.len (.get (.vv 0) (.il 1)))))]) := by kernel_rfl
theorem p6 : last K 13 61 [false, false, false, false, false, false, true] s0 = some ((.gN (.bl false)), [.ask (.not (.lt (.ab (.get (.vv 0) (.il 0))) (.il 1))), .ask (.not (.lt (.il 12) (.ab (.get (.vv 0) (.il 0))))), .ask (.not (.lt (.len (.get (.vv 0) (.il 1))) (.il 1))), .ask (.not (.lt (.il 4) (.len (.get (.vv 0) (.il 1))))), .call 46 [(.get (.vv 0) (.il 1)), (.aN (.len (.get (.vv 0) (.il 1)))), (.aN (.ab (.get (.vv 0) (.il 0))))], .ask (.not (.not (.eI (.vv 1)))), .ask (.not (.not (.eq (.len (.get (.vv 0) (.il 2))) (.len (.get (.vv 0) (.il 1)))))), .ask (.not (.eq (.len (.get (.vv 0) (.il 3))) (.len (.get (.vv 0) (.il 1)))))]) := by kernel_rfl
theorem p7 : last K 13 82 [false, false, false, false, false, false, false, true] s0 = some ((.gN (.bl false)), [.ask (.not (.lt (.ab (.get (.vv 0) (.il 0))) (.il 1))), .ask (.not (.lt (.il 12) (.ab (.get (.vv 0) (.il 0))))), .ask (.not (.lt (.len (.get (.vv 0) (.il 1))) (.il 1))), .ask (.not (.lt (.il 4) (.len (.get (.vv 0) (.il 1))))), .call 46 [(.get (.vv 0) (.il 1)), (.aN (.len (.get (.vv 0) (.il 1)))), (.aN (.ab (.get (.vv 0) (.il 0))))], .ask (.not (.not (.eI (.vv 1)))), .ask (.not (.not (.eq (.len (.get (.vv 0) (.il 2))) (.len (.get (.vv 0) (.il 1)))))), .ask (.not (.not (.eq (.len (.get (.vv 0) (.il 3))) (.len (.get (.vv 0) (.il 1)))))), .ask (.lt (.il 0) (.len (.get (.vv 0) (.il 3)))), .ask (.lt (.len (.get (.get (.vv 0) (.il 3)) (.il 0))) (.il 1))]) := by kernel_rfl
theorem p8 : last K 13 82 [false, false, false, false, false, false, false, false, true] s0 = some ((.gN (.bl false)), [.ask (.not (.lt (.ab (.get (.vv 0) (.il 0))) (.il 1))), .ask (.not (.lt (.il 12) (.ab (.get (.vv 0) (.il 0))))), .ask (.not (.lt (.len (.get (.vv 0) (.il 1))) (.il 1))), .ask (.not (.lt (.il 4) (.len (.get (.vv 0) (.il 1))))), .call 46 [(.get (.vv 0) (.il 1)), (.aN (.len (.get (.vv 0) (.il 1)))), (.aN (.ab (.get (.vv 0) (.il 0))))], .ask (.not (.not (.eI (.vv 1)))), .ask (.not (.not (.eq (.len (.get (.vv 0) (.il 2))) (.len (.get (.vv 0) (.il 1)))))), .ask (.not (.not (.eq (.len (.get (.vv 0) (.il 3))) (.len (.get (.vv 0) (.il 1)))))), .ask (.lt (.il 0) (.len (.get (.vv 0) (.il 3)))), .ask (.not (.lt (.len (.get (.get (.vv 0) (.il 3)) (.il 0))) (.il 1))), .ask (.lt (.il 4) (.len (.get (.get (.vv 0) (.il 3)) (.il 0))))]) := by kernel_rfl
theorem p9 : af K 85 [false, false, false, false, false, false, false, false, false] s0 s1 [] ⟨[(.il 0)], [], [(.vv 0), (.vv 1)], [(q 0 0), (q 1 0), (q 0 1), (q 0 2), (q 0 3)]⟩ [(0, (some 0))] = some (s1, [.ask (.not (.lt (.ab (.get (.vv 0) (.il 0))) (.il 1))), .ask (.not (.lt (.il 12) (.ab (.get (.vv 0) (.il 0))))), .ask (.not (.lt (.len (.get (.vv 0) (.il 1))) (.il 1))), .ask (.not (.lt (.il 4) (.len (.get (.vv 0) (.il 1))))), .call 46 [(.get (.vv 0) (.il 1)), (.aN (.len (.get (.vv 0) (.il 1)))), (.aN (.ab (.get (.vv 0) (.il 0))))], .ask (.not (.not (.eI (.vv 1)))), .ask (.not (.not (.eq (.len (.get (.vv 0) (.il 2))) (.len (.get (.vv 0) (.il 1)))))), .ask (.not (.not (.eq (.len (.get (.vv 0) (.il 3))) (.len (.get (.vv 0) (.il 1)))))), .ask (.lt (.il 0) (.len (.get (.vv 0) (.il 3)))), .ask (.not (.lt (.len (.get (.get (.vv 0) (.il 3)) (.il 0))) (.il 1))), .ask (.not (.lt (.il 4) (.len (.get (.get (.vv 0) (.il 3)) (.il 0)))))]) := by kernel_rfl
theorem CI : last K 13 42 [true, true] s1 = some ((.gN (.bl false)), [.ask (.lt (.iv 0) (.len (.get (.vv 0) (.il 1)))), .ask (IB (.iv 0) (.get (.vv 0) (.il 2))), .call 46 [(.get (.get (.vv 0) (.il 2)) (.iv 0)), (.aN (.len (.get (.vv 0) (.il 1)))), (.aN (.ab (.get (.vv 0) (.il 0))))], .ask (.not (.eI (.vv 2)))]) := by kernel_rfl
theorem D1 : last K 13 42 [true, false, true] s1 = some ((.gN (.bl false)), [.ask (.lt (.iv 0) (.len (.get (.vv 0) (.il 1)))), .ask (IB (.iv 0) (.get (.vv 0) (.il 2))), .call 46 [(.get (.get (.vv 0) (.il 2)) (.iv 0)), (.aN (.len (.get (.vv 0) (.il 1)))), (.aN (.ab (.get (.vv 0) (.il 0))))], .ask (.not (.not (.eI (.vv 2)))), .ask (IB (.iv 0) (.get (.vv 0) (.il 3))), .call 46 [(.get (.get (.vv 0) (.il 3)) (.iv 0)), (.aN (.len (.get (.get (.vv 0) (.il 3)) (.il 0)))), (.aN (.ab (.get (.vv 0) (.il 0))))], .ask (.not (.eI (.vv 3)))]) := by kernel_rfl
theorem EB : af K 45 [true, false, false] s1 s1 [] ⟨[(.add (.iv 0) (.il 1))], [], [(.vv 0), (.vv 1)], (Z [0, 1, 2, 3, 4])⟩ [(0, (some 0))] = some (s1, [.ask (.lt (.iv 0) (.len (.get (.vv 0) (.il 1)))), .ask (IB (.iv 0) (.get (.vv 0) (.il 2))), .call 46 [(.get (.get (.vv 0) (.il 2)) (.iv 0)), (.aN (.len (.get (.vv 0) (.il 1)))), (.aN (.ab (.get (.vv 0) (.il 0))))], .ask (.not (.not (.eI (.vv 2)))), .ask (IB (.iv 0) (.get (.vv 0) (.il 3))), .call 46 [(.get (.get (.vv 0) (.il 3)) (.iv 0)), (.aN (.len (.get (.get (.vv 0) (.il 3)) (.il 0)))), (.aN (.ab (.get (.vv 0) (.il 0))))], .ask (.not (.not (.eI (.vv 3)))), .ask (FT (.add (.iv 0) (.il 1)))]) := by kernel_rfl
theorem ER : last K 13 14 [false] s1 = some ((.gN (.bl true)), [.ask (.not (.lt (.iv 0) (.len (.get (.vv 0) (.il 1)))))]) := by kernel_rfl
theorem b : aW prog 13 = some s0 := by kernel_rfl
end de
end X
namespace X
open Go Go.a9 Go.Sym
namespace jP
abbrev f : Nat := 50
noncomputable def K : dj := ⟨prog, pl, [], [], []⟩
noncomputable def s0 : au := ⟨⟨50, 37, (m (.agg [(.int .i64 (.ab (.get (.vv 0) (.il 0)))), (.pure 3 (.get (.vv 0) (.il 1)) (q 0 1)), (.pure 27 (.get (.vv 0) (.il 2)) (q 0 2)), (.pure 27 (.get (.vv 0) (.il 3)) (q 0 3))]) (l (.pure 3 (.vv 1) (q 1 0))) z z z), [.code (C 50 [])], [], .run, false, none⟩, [], ⟨0, 2, 2, z⟩⟩
noncomputable def s1 : au := ⟨⟨50, 37, (n (m (.pure 3 (.vv 1) (q 2 0)) (l (.int .i64 (.iv 0))) z z z) (l (.addr 0 0)) z z), [.code (C 50 [1, 0, 1, 0, 0]), .inLoop (C 50 [1, 0, 1, 0, 0]), .inBlock 0, .code (C 50 [1, 1])], [], .run, false, none⟩, [], ⟨1, 6, 2, (l (.cells [(.int .i64 (.ab (.get (.vv 0) (.il 0)))), (.pure 3 (.get (.vv 0) (.il 1)) (q 3 0)), (.pure 27 (.get (.vv 0) (.il 2)) (q 4 0)), (.pure 27 (.get (.vv 0) (.il 3)) (q 5 0))]))⟩⟩
theorem p0 : af K 12 [] s0 s1 [] ⟨[(.il 0)], [], [(.vv 0), (.vv 1)], [(q 0 0), (q 1 0), (q 1 0), (q 0 1), (q 0 2), (q 0 3)]⟩ [(0, (some 0))] = some (s1, []) := by kernel_rfl
theorem p1 : last K 50 38 [true, true] s1 = some ((.gN (.bl false)), [.ask (.lt (.iv 0) (.len (.vv 1))), .ask (IB (.iv 0) (.vv 1)), .ask (.lt (.ab (.get (.vv 1) (.iv 0))) (.il (-1)))]) := by kernel_rfl
theorem p2 : last K 50 38 [true, false, true] s1 = some ((.gN (.bl false)), [.ask (.lt (.iv 0) (.len (.vv 1))), .ask (IB (.iv 0) (.vv 1)), .ask (.not (.lt (.ab (.get (.vv 1) (.iv 0))) (.il (-1)))), .ask (IB (.iv 0) (.vv 1)), .ask (.lt (.il 0) (.len (.get (.vv 0) (.il 3)))), .ask (.le (.len (.get (.get (.vv 0) (.il 3)) (.il 0))) (.ab (.get (.vv 1) (.iv 0))))]) := by kernel_rfl
theorem p3 : af K 41 [true, false, false] s1 s1 [] ⟨[(.add (.iv 0) (.il 1))], [], [(.vv 0), (.vv 1)], (Z [0, 1, 2, 3, 4, 5])⟩ [(0, (some 0))] = some (s1, [.ask (.lt (.iv 0) (.len (.vv 1))), .ask (IB (.iv 0) (.vv 1)), .ask (.not (.lt (.ab (.get (.vv 1) (.iv 0))) (.il (-1)))), .ask (IB (.iv 0) (.vv 1)), .ask (.lt (.il 0) (.len (.get (.vv 0) (.il 3)))), .ask (.not (.le (.len (.get (.get (.vv 0) (.il 3)) (.il 0))) (.ab (.get (.vv 1) (.iv 0))))), .ask (FT (.add (.iv 0) (.il 1)))]) := by kernel_rfl
theorem p4 : last K 50 23 [false, true] s1 = some ((.gN (.le (.len (.vv 1)) (.il 8))), [.ask (.not (.lt (.iv 0) (.len (.vv 1)))), .ask (.le (.il 1) (.len (.vv 1)))]) := by kernel_rfl
theorem p5 : last K 50 23 [false, false] s1 = some ((.gN (.bl false)), [.ask (.not (.lt (.iv 0) (.len (.vv 1)))), .ask (.not (.le (.il 1) (.len (.vv 1))))]) := by kernel_rfl
theorem b : aW prog 50 = some s0 := by kernel_rfl
end jP
end X
namespace X
open Go Go.a9 Go.Sym
namespace gJ
abbrev f : Nat := 17
noncomputable def K : dj := ⟨prog, pl, [], [13, 50], []⟩
noncomputable def s0 : au := ⟨⟨17, 12, (m (.agg [(.int .i64 (.ab (.get (.vv 0) (.il 0)))), (.pure 3 (.get (.vv 0) (.il 1)) (q 0 1)), (.pure 27 (.get (.vv 0) (.il 2)) (q 0 2)), (.pure 27 (.get (.vv 0) (.il 3)) (q 0 3))]) (l (.pure 3 (.vv 1) (q 1 0))) z z z), [.code (C 17 [])], [], .run, false, none⟩, [], ⟨0, 2, 2, z⟩⟩
theorem p0 : last K 17 18 [true] s0 = some ((.aN (.il 170)), [.call 13 [(HM (.vv 0))], .ask (.not (.eI (.vv 2)))]) := by kernel_rfl
theorem p1 : last K 17 28 [false, true] s0 = some ((.aN (.il 2)), [.call 13 [(HM (.vv 0))], .ask (.not (.not (.eI (.vv 2)))), .call 50 [(HM (.vv 0)), (.vv 1)], .ask (.not (.eI (.vv 3)))]) := by kernel_rfl
theorem p2 : last K 17 29 [false, false] s0 = some ((.aN (.il 0)), [.call 13 [(HM (.vv 0))], .ask (.not (.not (.eI (.vv 2)))), .call 50 [(HM (.vv 0)), (.vv 1)], .ask (.not (.not (.eI (.vv 3))))]) := by kernel_rfl
theorem b : aW prog 17 = some s0 := by kernel_rfl
end gJ
end X
namespace X
open Go Go.a9 Go.Sym
namespace pn
abbrev f : Nat := 56
noncomputable def K : dj := ⟨prog, pl, [], [], []⟩
noncomputable def s0 : au := ⟨⟨56, 19, (m (.agg [(.int .i64 (.ab (.get (.vv 0) (.il 0)))), (.pure 3 (.get (.vv 0) (.il 1)) (q 0 1)), (.pure 27 (.get (.vv 0) (.il 2)) (q 0 2)), (.pure 27 (.get (.vv 0) (.il 3)) (q 0 3))]) (l (.int .i64 (.ab (.vv 1)))) (l (.int .i64 (.ab (.vv 2)))) z z), [.code (C 56 [])], [], .run, false, none⟩, [], ⟨0, 3, 3, z⟩⟩
theorem p0 : last K 56 19 [true] s0 = some ((.aN (.ab (.get (.vv 0) (.il 0)))), [.ask (.eq (.ab (.vv 2)) (.il (-1)))]) := by kernel_rfl
theorem p1 : last K 56 26 [false] s0 = some ((.aN (.ab (.get (.get (.get (.vv 0) (.il 3)) (.ab (.vv 1))) (.ab (.vv 2))))), [.ask (.not (.eq (.ab (.vv 2)) (.il (-1)))), .ask (IB (.ab (.vv 1)) (.get (.vv 0) (.il 3))), .ask (IB (.ab (.vv 2)) (.get (.get (.vv 0) (.il 3)) (.ab (.vv 1))))]) := by kernel_rfl
theorem b : aW prog 56 = some s0 := by kernel_rfl
end pn
end X
namespace X
open Go Go.a9 Go.Sym
namespace fx
abbrev f : Nat := 55
noncomputable def K : dj := ⟨prog, pl, [], [56], []⟩
noncomputable def s0 : au := ⟨⟨55, 54, (m (.agg [(.int .i64 (.ab (.get (.vv 0) (.il 0)))), (.pure 3 (.get (.vv 0) (.il 1)) (q 0 1)), (.pure 27 (.get (.vv 0) (.il 2)) (q 0 2)), (.pure 27 (.get (.vv 0) (.il 3)) (q 0 3))]) (l (.pure 3 (.vv 1) (q 1 0))) (l (.pure 3 (.vv 2) (q 2 0))) z z), [.code (C 55 [])], [], .run, false, none⟩, [], ⟨0, 3, 3, z⟩⟩
noncomputable def s1 : au := ⟨⟨55, 54, (n (l (.pure 3 (.vv 1) (q 3 0))) (l (.pure 3 (.vv 2) (q 4 0))) (m (.addr 0 0) (l (.int .i64 (.iv 0))) z z z) (n (l (.int .i64 (.iv 1))) z z z)), [.code (C 55 [1, 1, 0, 1, 0, 0]), .inLoop (C 55 [1, 1, 0, 1, 0, 0]), .inBlock 0, .code (C 55 [1, 1, 1])], [], .run, false, none⟩, [], ⟨1, 8, 3, (l (.cells [(.int .i64 (.ab (.get (.vv 0) (.il 0)))), (.pure 3 (.get (.vv 0) (.il 1)) (q 5 0)), (.pure 27 (.get (.vv 0) (.il 2)) (q 6 0)), (.pure 27 (.get (.vv 0) (.il 3)) (q 7 0))]))⟩⟩
theorem p0 : af K 16 [] s0 s1 [] ⟨[(.il 1), (.il 0)], [], [(.vv 0), (.vv 1), (.vv 2)], [(q 0 0), (q 1 0), (q 2 0), (q 1 0), (q 2 0), (q 0 1), (q 0 2), (q 0 3)]⟩ [(0, (some 0))] = some (s1, []) := by kernel_rfl
theorem p1 : af K 51 [true, true] s1 s1 [] ⟨[(.mul (.ab (.get (.get (.vv 0) (.il 1)) (.ab (.get (.vv 2) (.il 0))))) (.ab (.vv 3))), (.add (.iv 1) (.il 1))], [], [(.vv 0), (.vv 1), (.vv 2)], (Z [0, 1, 2, 3, 4, 5, 6, 7])⟩ [(0, (some 0))] = some (s1, [.ask (.lt (.iv 1) (.len (.vv 2))), .ask (.eq (.iv 1) (.il 0)), .ask (.lt (.il 0) (.len (.vv 2))), .ask (IB (.ab (.get (.vv 2) (.il 0))) (.get (.vv 0) (.il 1))), .ask (IB (.iv 1) (.vv 2)), .ask (IB (.iv 1) (.vv 1)), .call 56 [(HM (.vv 0)), (.aN (.ab (.get (.vv 2) (.iv 1)))), (.aN (.ab (.get (.vv 1) (.iv 1))))], .ask (FT (.mul (.ab (.get (.get (.vv 0) (.il 1)) (.ab (.get (.vv 2) (.il 0))))) (.ab (.vv 3)))), .ask (FT (.add (.iv 1) (.il 1)))]) := by kernel_rfl
theorem p2 : af K 61 [true, false] s1 s1 [] ⟨[(.mul (.mul (.iv 0) (.ab (.get (.get (.get (.vv 0) (.il 2)) (.ab (.get (.vv 2) (.sub (.iv 1) (.il 1))))) (.ab (.get (.vv 2) (.iv 1)))))) (.ab (.vv 3))), (.add (.iv 1) (.il 1))], [], [(.vv 0), (.vv 1), (.vv 2)], (Z [0, 1, 2, 3, 4, 5, 6, 7])⟩ [(0, (some 0))] = some (s1, [.ask (.lt (.iv 1) (.len (.vv 2))), .ask (.not (.eq (.iv 1) (.il 0))), .ask (FT (.sub (.iv 1) (.il 1))), .ask (IB (.sub (.iv 1) (.il 1)) (.vv 2)), .ask (IB (.ab (.get (.vv 2) (.sub (.iv 1) (.il 1)))) (.get (.vv 0) (.il 2))), .ask (IB (.iv 1) (.vv 2)), .ask (IB (.ab (.get (.vv 2) (.iv 1))) (.get (.get (.vv 0) (.il 2)) (.ab (.get (.vv 2) (.sub (.iv 1) (.il 1)))))), .ask (FT (.mul (.iv 0) (.ab (.get (.get (.get (.vv 0) (.il 2)) (.ab (.get (.vv 2) (.sub (.iv 1) (.il 1))))) (.ab (.get (.vv 2) (.iv 1))))))), .ask (IB (.iv 1) (.vv 2)), .ask (IB (.iv 1) (.vv 1)), .call 56 [(HM (.vv 0)), (.aN (.ab (.get (.vv 2) (.iv 1)))), (.aN (.ab (.get (.vv 1) (.iv 1))))], .ask (FT (.mul (.mul (.iv 0) (.ab (.get (.get (.get (.vv 0) (.il 2)) (.ab (.get (.vv 2) (.sub (.iv 1) (.il 1))))) (.ab (.get (.vv 2) (.iv 1)))))) (.ab (.vv 3)))), .ask (FT (.add (.iv 1) (.il 1)))]) := by kernel_rfl
theorem p3 : last K 55 16 [false] s1 = some ((.aN (.iv 0)), [.ask (.not (.lt (.iv 1) (.len (.vv 2))))]) := by kernel_rfl
theorem b : aW prog 55 = some s0 := by kernel_rfl
end fx
end X
namespace X
open Go Go.a9 Go.Sym
namespace dx
abbrev f : Nat := 54
noncomputable def K : dj := ⟨prog, pl, [], [], []⟩
noncomputable def e0 : SV := .int .i64 (.ab (.get (.vv 0) (.il 0)))
noncomputable def s0 : au := ⟨⟨54, 44, (m (.agg [e0, (.pure 3 (.get (.vv 0) (.il 1)) (q 0 1)), (.pure 27 (.get (.vv 0) (.il 2)) (q 0 2)), (.pure 27 (.get (.vv 0) (.il 3)) (q 0 3))]) (l (.int .i64 (.ab (.vv 1)))) z z z), [.code (C 54 [])], [], .run, false, none⟩, [], ⟨0, 2, 2, z⟩⟩
noncomputable def s1 : au := ⟨⟨54, 44, (n (m (.int .i64 (.ab (.vv 1))) (l (.view 1)) z z z) (m (.addr 0 0) (l (.int .i64 (.iv 0))) z z z) z z), [.code (C 54 [1, 1, 0, 1, 0, 0]), .inLoop (C 54 [1, 1, 0, 1, 0, 0]), .inBlock 0, .code (C 54 [1, 1, 1])], [], .run, false, none⟩, [], ⟨2, 5, 3, (m (.cells [e0, (.pure 3 (.get (.vv 0) (.il 1)) (q 2 0)), (.pure 27 (.get (.vv 0) (.il 2)) (q 3 0)), (.pure 27 (.get (.vv 0) (.il 3)) (q 4 0))]) (l (.arr 27 (.vv 2) 0)) z z z)⟩⟩
noncomputable def s2 : au := ⟨⟨54, 44, (n (m (.int .i64 (.ab (.vv 1))) (l (.view 1)) z z z) (m (.addr 0 0) (l (.int .i64 (.iv 1))) z z z) (n (l (.view 2)) z z z) (n (l (.int .i64 (.iv 0))) z z z)), [.code (C 54 [1, 1, 0, 1, 0, 0, 1, 0, 0, 1, 0, 1, 0, 0]), .inLoop (C 54 [1, 1, 0, 1, 0, 0, 1, 0, 0, 1, 0, 1, 0, 0]), .inBlock 2, .code (C 54 [1, 1, 0, 1, 0, 0, 1, 0, 0, 1, 1]), .inBlock 1, .code (C 54 [1, 1, 0, 1, 0, 0, 1, 1]), .inLoop (C 54 [1, 1, 0, 1, 0, 0]), .inBlock 0, .code (C 54 [1, 1, 1])], [], .run, false, none⟩, [], ⟨3, 8, 4, (m (.cells [e0, (.pure 3 (.get (.vv 0) (.il 1)) (q 5 0)), (.pure 27 (.get (.vv 0) (.il 2)) (q 6 0)), (.pure 27 (.get (.vv 0) (.il 3)) (q 7 0))]) (l (.arr 27 (.vv 3) 0)) (l (.arr 27 (.vv 2) 0)) z z)⟩⟩
noncomputable def s3 : au := ⟨⟨54, 44, (n (m (.int .i64 (.ab (.vv 1))) (l (.view 1)) (l (.int .i64 (.iv 0))) z z) (m (.addr 0 0) (l (.int .i64 (.iv 2))) z z z) (n (l (.view 2)) z z z) (n (l (.int .i64 (.iv 1))) z z z)), [.code (C 54 [1, 1, 0, 1, 0, 0, 1, 0, 0, 1, 0, 1, 0, 0, 1, 0, 0, 1, 0, 0]), .inLoop (C 54 [1, 1, 0, 1, 0, 0, 1, 0, 0, 1, 0, 1, 0, 0, 1, 0, 0, 1, 0, 0]), .inBlock 4, .inBlock 3, .code (C 54 [1, 1, 0, 1, 0, 0, 1, 0, 0, 1, 0, 1, 0, 0, 1, 1]), .inLoop (C 54 [1, 1, 0, 1, 0, 0, 1, 0, 0, 1, 0, 1, 0, 0]), .inBlock 2, .code (C 54 [1, 1, 0, 1, 0, 0, 1, 0, 0, 1, 1]), .inBlock 1, .code (C 54 [1, 1, 0, 1, 0, 0, 1, 1]), .inLoop (C 54 [1, 1, 0, 1, 0, 0]), .inBlock 0, .code (C 54 [1, 1, 1])], [], .run, false, none⟩, [], ⟨3, 11, 4, (m (.cells [e0, (.pure 3 (.get (.vv 0) (.il 1)) (q 8 0)), (.pure 27 (.get (.vv 0) (.il 2)) (q 9 0)), (.pure 27 (.get (.vv 0) (.il 3)) (q 10 0))]) (l (.arr 27 (.vv 3) 0)) (l (.arr 27 (.vv 2) 0)) z z)⟩⟩
theorem p0 : af K 17 [] s0 s1 [] ⟨[(.il 0)], [], [(.vv 0), (.vv 1), (.snoc .emp .nil)], [(q 0 0), (q 1 0), (q 0 1), (q 0 2), (q 0 3)]⟩ [(0, (some 0)), (1, (some 1))] = some (s1, []) := by kernel_rfl
theorem p1 : af K 22 [true] s1 s2 [] ⟨[(.il 0), (.iv 0)], [], [(.vv 0), (.vv 1), .nil, (.vv 2)], (Z [0, 1, 2, 3, 4, 2, 3, 4])⟩ [(0, (some 0)), (1, (some 1)), (2, none)] = some (s2, [.ask (.lt (.iv 0) (.ab (.vv 1)))]) := by kernel_rfl
theorem p2 : last K 54 15 [false] s1 = some ((.vv 2), [.ask (.not (.lt (.iv 0) (.ab (.vv 1))))]) := by kernel_rfl
theorem p3 : af K 18 [true] s2 s3 [] ⟨[(.il 0), (.iv 0), (.iv 1)], [], [(.vv 0), (.vv 1), (.vv 2), (.vv 3)], (Z [0, 1, 2, 3, 4, 5, 6, 7, 5, 6, 7])⟩ [(0, (some 0)), (1, (some 1)), (2, (some 2))] = some (s3, [.ask (.lt (.iv 0) (.len (.vv 3)))]) := by kernel_rfl
theorem p4 : af K 21 [false] s2 s1 [] ⟨[(.add (.iv 1) (.il 1))], [], [(.vv 0), (.vv 1), (.vv 2)], (Z [0, 1, 5, 6, 7])⟩ [(0, (some 0)), (1, (some 2))] = some (s1, [.ask (.not (.lt (.iv 0) (.len (.vv 3)))), .ask (FT (.add (.iv 1) (.il 1)))]) := by kernel_rfl
theorem p5 : af K 39 [true] s3 s3 [] ⟨[(.add (.iv 0) (.il 1)), (.iv 1), (.iv 2)], [], [(.vv 0), (.vv 1), (.snoc (.vv 2) (.snoc (.app .nil (.get (.vv 3) (.iv 1))) (.aN (.iv 0)))), (.vv 3)], (Z [0, 1, 2, 3, 4, 5, 6, 7, 8, 9, 10])⟩ [(0, (some 0)), (1, (some 1)), (2, (some 7))] = some (s3, [.ask (.lt (.iv 0) (.len (.get (.vv 0) (.il 1)))), .ask (IB (.iv 1) (.vv 3)), .ask (IB (.iv 1) (.vv 3)), .ask (.le (.len (.get (.vv 3) (.iv 1))) (.il 8796093021696)), .ask (.le (.add (.len (.app .nil (.get (.vv 3) (.iv 1)))) (.il 1)) (.il 8796093021696)), .ask (.le (.add (.len (.vv 2)) (.il 1)) (.il 2932031006890)), .ask (FT (.add (.iv 0) (.il 1)))]) := by kernel_rfl
theorem p6 : af K 18 [false] s3 s2 [] ⟨[(.add (.iv 1) (.il 1)), (.iv 2)], [], [(.vv 0), (.vv 1), (.vv 2), (.vv 3)], (Z [0, 1, 2, 3, 4, 8, 9, 10])⟩ [(0, (some 0)), (1, (some 1)), (2, (some 2))] = some (s2, [.ask (.not (.lt (.iv 0) (.len (.get (.vv 0) (.il 1))))), .ask (FT (.add (.iv 1) (.il 1)))]) := by kernel_rfl
theorem b : aW prog 54 = some s0 := by kernel_rfl
end dx
end X
namespace X
open Go Go.a9 Go.Sym
namespace jA
abbrev f : Nat := 52
noncomputable def K : dj := ⟨prog, pl, [(52, 17)], [], []⟩
noncomputable def s0 : au := ⟨⟨52, 20, (m (.agg [(.int .i64 (.ab (.get (.vv 0) (.il 0)))), (.pure 3 (.get (.vv 0) (.il 1)) (q 0 1)), (.pure 27 (.get (.vv 0) (.il 2)) (q 0 2)), (.pure 27 (.get (.vv 0) (.il 3)) (q 0 3))]) (l (.int .i64 (.ab (.vv 1)))) z z z), [.code (C 52 [])], [], .run, false, none⟩, [], ⟨0, 2, 2, z⟩⟩
noncomputable def s1 : au := ⟨⟨52, 20, (n (m (.int .i64 (.ab (.vv 1))) (l (.view 1)) z z z) (m (.addr 0 0) (l (.int .i64 (.iv 0))) z z z) z z), [.code (C 52 [1, 1, 0, 1, 0, 0]), .inLoop (C 52 [1, 1, 0, 1, 0, 0]), .inBlock 0, .code (C 52 [1, 1, 1])], [], .run, false, none⟩, [], ⟨2, 5, 3, (m (.cells [(.int .i64 (.ab (.get (.vv 0) (.il 0)))), (.pure 3 (.get (.vv 0) (.il 1)) (q 2 0)), (.pure 27 (.get (.vv 0) (.il 2)) (q 3 0)), (.pure 27 (.get (.vv 0) (.il 3)) (q 4 0))]) (l (.tree 27 (.vv 2) none)) z z z)⟩⟩
theorem p0 : af K 16 [] s0 s1 [] ⟨[(.il 0)], [], [(.vv 0), (.vv 1), .nil], [(q 0 0), (q 1 0), (q 0 1), (q 0 2), (q 0 3)]⟩ [(0, (some 0)), (1, none)] = some (s1, []) := by kernel_rfl
theorem p1 : af K 28 [true] s1 s1 [] ⟨[(.add (.iv 0) (.il 1))], [], [(.vv 0), (.vv 1), (.snoc (.vv 2) (.rep (.len (.get (.vv 0) (.il 1))) (.aN (.il 0))))], (Z [0, 1, 2, 3, 4])⟩ [(0, (some 0)), (1, (some 4))] = some (s1, [.ask (.lt (.iv 0) (.ab (.vv 1))), .ask (.and (.le (.il 0) (.len (.get (.vv 0) (.il 1)))) (.le (.len (.get (.vv 0) (.il 1))) (.il 17592186044416))), .ask (.le (.add (.len (.vv 2)) (.il 1)) (.il 2932031006890)), .ask (FT (.add (.iv 0) (.il 1)))]) := by kernel_rfl
theorem p2 : zW K 52 15 [false] s1 = some ((.vv 2), [.ask (.not (.lt (.iv 0) (.ab (.vv 1))))]) := by kernel_rfl
theorem b : aW prog 52 = some s0 := by kernel_rfl
end jA
end X
namespace X
open Go Go.a9 Go.Sym
namespace jB
abbrev f : Nat := 53
noncomputable def K : dj := ⟨prog, pl, [], [], []⟩
noncomputable def s0 : au := ⟨⟨53, 19, (m (.agg [(.int .i64 (.ab (.get (.vv 0) (.il 0)))), (.pure 3 (.get (.vv 0) (.il 1)) (q 0 1)), (.pure 27 (.get (.vv 0) (.il 2)) (q 0 2)), (.pure 27 (.get (.vv 0) (.il 3)) (q 0 3))]) (l (.int .i64 (.ab (.vv 1)))) z z z), [.code (C 53 [])], [], .run, false, none⟩, [], ⟨0, 2, 2, z⟩⟩
noncomputable def s1 : au := ⟨⟨53, 19, (n (m (.int .i64 (.ab (.vv 1))) (l (.int .i64 (.iv 0))) z z z) (m (.addr 0 0) (l (.int .i64 (.iv 1))) z z z) z z), [.code (C 53 [1, 1, 0, 1, 0, 0]), .inLoop (C 53 [1, 1, 0, 1, 0, 0]), .inBlock 0, .code (C 53 [1, 1, 1])], [], .run, false, none⟩, [], ⟨1, 5, 2, (l (.cells [(.int .i64 (.ab (.get (.vv 0) (.il 0)))), (.pure 3 (.get (.vv 0) (.il 1)) (q 2 0)), (.pure 27 (.get (.vv 0) (.il 2)) (q 3 0)), (.pure 27 (.get (.vv 0) (.il 3)) (q 4 0))]))⟩⟩
theorem p0 : af K 16 [] s0 s1 [] ⟨[(.il 1), (.il 0)], [], [(.vv 0), (.vv 1)], [(q 0 0), (q 1 0), (q 0 1), (q 0 2), (q 0 3)]⟩ [(0, (some 0))] = some (s1, []) := by kernel_rfl
theorem p1 : af K 26 [true] s1 s1 [] ⟨[(.mul (.iv 0) (.len (.get (.vv 0) (.il 1)))), (.add (.iv 1) (.il 1))], [], [(.vv 0), (.vv 1)], (Z [0, 1, 2, 3, 4])⟩ [(0, (some 0))] = some (s1, [.ask (.lt (.iv 1) (.ab (.vv 1))), .ask (FT (.mul (.iv 0) (.len (.get (.vv 0) (.il 1))))), .ask (FT (.add (.iv 1) (.il 1)))]) := by kernel_rfl
theorem p2 : last K 53 16 [false] s1 = some ((.gN (.le (.iv 0) (.il 1024))), [.ask (.not (.lt (.iv 1) (.ab (.vv 1))))]) := by kernel_rfl
theorem b : aW prog 53 = some s0 := by kernel_rfl
end jB
end X
