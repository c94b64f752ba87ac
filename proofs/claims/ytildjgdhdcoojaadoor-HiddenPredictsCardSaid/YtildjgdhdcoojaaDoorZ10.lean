/- Texts of the claim: SymOwn, SymCall, SymStep, SymExec, SymRun, SymAdopt2, SymApi, PathsBase, P_frac_gcd, P_frac_size, P_ref01_digits, P_ref01_cut, P_ref01_compare, P_ref01_times, P_ref01_minus, P_ref01_divide, P_ref01_gcd, P_ref01_value, P_ref01_made, P_ref01_Make, P_ref01_Of, P_frac_Make, P_Split17, P_from17, P_DraftHidden, P_DraftWhat, P_copied17, P_BendOf17, P_few17, P_chains, P_hrow, P_hrows, P_hvalid, P_rrow, P_rRight, P_rSeen, P_rErrors, P_rShows, P_rWeight, P_rPaths, P_rzeros, P_rshort. -/
import Derived.Test.YtildjgdhdcoojaaDoorZ09
import Derived.KernelRfl
import Derived.Test.YtildjgdhdcoojaaDoorProg
set_option linter.unusedVariables false
set_option linter.unusedSimpArgs false
namespace Go.Sym
open Go Go.Abs
def OVal (P : Program) (h : Heap) (t : TypeId) (x : V) (a : AV) (F : List Nat) : Prop :=
 ∃ cs, OV P h deep t x cs F /\ ((isAggT P t = some true /\ a = .agg cs) \/ (isAggT P t = some false /\ cs = [a]))
inductive ArgsO (P : Program) (h : Heap) : List TypeId -> List V -> List AV -> List Nat -> Prop
 | nil : ArgsO P h [] [] [] []
 | cons {t : TypeId} {x : V} {a : AV} {F G : List Nat} {ts : List TypeId} {xs : List V} {as_ : List AV} : OVal P h t x a F -> ArgsO P h ts xs as_ G -> ArgsO P h (t :: ts) (x :: xs) (a :: as_) (F ++ G)
def ResO (P : Program) (h : Heap) (ts : List TypeId) (r : V) (us : List AV) (F : List Nat) : Prop :=
 match ts with
 | [t] => ∃ u, us = [u] /\ OVal P h t r u F
 | ts => ∃ rs, r = .list rs /\ ArgsO P h ts rs us F
def FnO (P : Program) (f : FuncId) (xs : List V) (r : V) : Prop :=
 ∀ (h : Heap) (S : Nat -> Prop) (as_ : List AV) (fn : Func), P.funcs[f]? = some fn -> (∀ c, S c -> c < h.next) -> (∀ c, h.next <= c -> h.get c = none) -> ArgsR P h S fn.params.toList xs as_ ->
 ∃ g, enter P f as_ false = some g /\ ∀ callers, ∃ gE h' us F, h.next <= h'.next /\ (∀ c, c < h.next -> h'.get c = h.get c) /\ (∀ c, h'.next <= c -> h'.get c = none) /\ ResO P h' fn.resultTypes.toList r us F /\ F.Nodup /\ (∀ a, a ∈ F -> h.next <= a /\ a < h'.next) /\
  gE.fn = f /\ gE.mode = .returning /\ gE.defers = [] /\ gE.deferred = false /\ aresults P h' gE.tm fn.results.toList = some us /\ Leads P ⟨g, callers, h⟩ ⟨gE, callers, h'⟩
section
variable {P : Program} {h h' : Heap} {H : Hid} {ρ : Env} {h0 : Heap} {sh : SHeap}
theorem OVal.pval {S : Nat -> Prop} {t : TypeId} {x : V} {a : AV} {F : List Nat} (hF : ∀ c ∈ F, S c) (g : OVal P h t x a F) : PVal P h S t x a := by
 obtain ⟨cs, g1, g2⟩ := g
 exact ⟨cs, g1.pv hF, g2⟩
theorem ArgsO.args {S : Nat -> Prop} {ts : List TypeId} {xs : List V} {us : List AV} {F : List Nat} (hF : ∀ c ∈ F, S c) (g : ArgsO P h ts xs us F) : ArgsR P h S ts xs us := by
 induction g with
 | nil => exact .nil
 | cons a b ih => exact .cons (a.pval fun c hc => hF c (by simp [hc])) (ih fun c hc => hF c (by simp [hc]))
theorem ResO.res {S : Nat -> Prop} {ts : List TypeId} {r : V} {us : List AV} {F : List Nat} (hF : ∀ c ∈ F, S c) (g : ResO P h ts r us F) : ResR P h S ts r us := by
 unfold ResO at g
 unfold ResR
 split at g
 ·obtain ⟨u, a, b⟩ := g
  exact ⟨u, a, b.pval hF⟩
 ·obtain ⟨rs, a, b⟩ := g
  rename_i hne
  split
  ·exact absurd rfl (hne _)
  ·exact ⟨rs, a, b.args hF⟩
theorem FnO.fn {f : FuncId} {xs : List V} {r : V} (g : FnO P f xs r) : Fn P f xs r := by
 intro h S as_ fn h1 h2 h3 h4
 obtain ⟨e, e1, k⟩ := g h S as_ fn h1 h2 h3 h4
 refine ⟨e, e1, fun callers => ?_⟩
 obtain ⟨gE, h', us, F, q1, q2, q3, q4, q5, q6, q7⟩ := k callers
 exact ⟨gE, h', us, q1, q2, q3, q4.res fun c hc => .inr (q6 c hc), q7⟩
theorem HR.grow (R : HR P h0 h H ρ sh) (hn : h.next <= h'.next) (hk : ∀ c, c < h.next -> h'.get c = h.get c) (ho : ∀ c, h'.next <= c -> h'.get c = none) : HExt h H h' H /\ HR P h0 h' H ρ { sh with nv := sh.nv + 1 } := by
 have hx : HExt h H h' H := ⟨fun _ _ e => e, fun _ _ _ e => e, fun _ _ _ _ e => e, fun c hc => ⟨hc, fun _ e => by rw [hk c (R.S_lt c hc)]; exact e⟩⟩
 refine ⟨hx, ⟨?_, R.inj, R.ownS, fun a ha => by have := R.S_lt a ha; omega, by have := R.next; omega, fun c hc => by rw [hk c (by have := R.next; omega)]; exact R.keep c hc, R.nu_none, fun b l a n l1 => by have := R.nu_lt _ _ _ n l1; omega, R.ka, R.kb, ho, R.blk_lt, R.tr.step (fun _ _ e w => ⟨_, e, w, rfl⟩) (fun _ _ _ _ _ _ q => q) (fun _ _ _ _ e w n l => .inl ⟨_, _, _, e, w, n, l⟩) hn⟩⟩
 intro b o e
 exact ObjR.mono hx (fun w => ⟨rfl, fun a ha ob g => by rw [hk a (R.tr.lt _ _ e w a ha).2.2]; exact g⟩) (fun l a n1 l1 ob g => by rw [hk a (R.nu_lt _ _ _ n1 l1)]; exact g) (fun _ _ _ _ => rfl) (fun _ _ => rfl) (R.objs _ _ e)
theorem SDs.flat {H' : Hid} : ∀ {x : List SV} {u : List AV}, (x.all fun | .bool _ | .int _ _ | .str _ => true | _ => false) = true -> SDs P h H ρ x u -> SDs P h H' ρ x u
 | [], _, _, .nil => .nil
 | a :: x, _, e, .cons g1 g2 => by
  simp only [List.all_cons, Bool.and_eq_true] at e
  refine .cons ?_ (SDs.flat e.2 g2)
  have h1 := e.1
  cases g1 <;> first | cases h1 | skip
  ·exact .bool _
  ·exact .int _ _
  ·rename_i q; exact .str q
def StillFree (h0 : Heap) (H : Hid) (sh : SHeap) (H' : Hid) (sh' : SHeap) (F : List Nat) : Prop := ∀ a, Free h0 H sh a -> a ∉ F -> Free h0 H' sh' a
theorem foldl_none {α β : Type} (f : Option β -> α -> Option β) (hf : ∀ a, f none a = none) : ∀ l : List α, l.foldl f none = none
 | [] => rfl
 | a :: l => by rw [List.foldl_cons, hf, foldl_none f hf l]
theorem ownRes_rel : ∀ {d : Nat} {t : TypeId} {e : E} {sh sh' : SHeap} {svs : List SV} {H : Hid} {cs : List AV} {F : List Nat} {d' : Nat}, HR P h0 h H ρ sh -> ownRes P d t e sh = some (sh', svs) -> d' <= deep -> OV P h d' t (e.v ρ) cs F -> F.Nodup -> (∀ a ∈ F, Free h0 H sh a /\ a < h.next) ->
  sh'.nv = sh.nv /\ ∃ H', HExt h H h H' /\ HR P h0 h H' ρ sh' /\ SGrow h0 H H' /\ SDs P h H' ρ svs cs /\ StillFree h0 H sh H' sh' F := by
 intro d
 induction d with
 | zero => intro t e sh sh' svs H cs F d' R k; exact (Option.some_ne_none _ (k.symm.trans rfl)).elim
 | succ d ih =>
  intro t e sh sh' svs H cs F d' R k hd g hN hF
  unfold ownRes at k
  cases hsl : slicy P deep t with
  | false =>
   rw [hsl] at k
   simp only [cond_false] at k
   split at k
   case h_2 => cases k
   rename_i c hc
   obtain ⟨hall, k⟩ := cond_ok k
   cases k
   have hf := g.flatF hsl
   subst hf
   have hpv : PV P h H.S d' t (e.v ρ) cs := g.pv (by simp)
   have sds := cellsOf_rel (H := { H with κ := fun n => if n = 0 then cs else H.κ n }) (way := fun o => .cell 0 o) hd hpv hc (fun k av hk => by simpa [avOf] using hk)
   exact ⟨rfl, H, HExt.refl _ _, R, SGrow.refl _ _, sds.flat hall, fun a q _ => q⟩
  | true =>
   rw [hsl] at k
   simp only [cond_true] at k
   cases d' with
   | zero => exact g.elim
   | succ d' =>
   obtain ⟨g0, g⟩ := g
   split at k
   ·rename_i et hu
    rw [hu] at g
    simp only at g
    obtain ⟨av, sz, rfl, g1, g2, g3⟩ := g
    split at k
    case h_2 => cases k
    rename_i z hz
    obtain ⟨hfin, k⟩ := cond_ok k
    cases k
    have hsh : ∀ (x : Nat) (o : SObj), (sh.new (innerObj P et e sh.next)).get x = some o -> (x = sh.next /\ o = innerObj P et e sh.next) \/ (x ≠ sh.next /\ ¬ False /\ sh.get x = some o) := by
     intro x o ex
     rw [SHeap.get_new] at ex
     split at ex
     ·rename_i q; cases ex; exact .inl ⟨q, rfl⟩
     ·rename_i q; exact .inr ⟨q, id, ex⟩
    have still : ∀ {H' : Hid} {l : Loc} {G : List Nat}, (∀ a, H'.S a -> H.S a) -> (∀ x, x ≠ sh.next -> H'.ν x = H.ν x /\ H'.fp x = H.fp x) -> H'.ν sh.next = some l -> H'.fp sh.next = G -> (∀ a, l.at = some a -> a ∈ F) -> (isTreeO (innerObj P et e sh.next) = true -> ∀ a ∈ G, a ∈ F) -> StillFree h0 H sh H' (sh.new (innerObj P et e sh.next)) F := by
     intro H' l G hS hν n f hl hG a q hna
     refine ⟨fun s => q.1 (hS a s), q.2.1, fun x o ex w gg => ?_⟩
     rcases hsh x o ex with ⟨rfl, rfl⟩ | ⟨hx, _, ex⟩
     ·rcases gg with ⟨l', n', l1⟩ | ⟨t', m⟩
      ·rw [n] at n'; cases n'; exact hna (hl _ l1)
      ·rw [f] at m; exact hna (hG t' _ m)
     ·refine q.2.2 x o ex w ?_
      obtain ⟨k1, k2⟩ := hν x hx
      rcases gg with ⟨l', n', l1⟩ | ⟨t', m⟩
      ·rw [k1] at n'; exact .inl ⟨l', n', l1⟩
      ·rw [k2] at m; exact .inr ⟨t', m⟩
    have hown : own (innerObj P et e sh.next) = true := by unfold innerObj; cases slicy P deep et <;> rfl
    rcases g3 with ⟨v1, rfl, rfl⟩ | ⟨li, ai, ci, Gi, v1, rfl, rfl, v4, v5⟩
    ·obtain ⟨H', x1, R1, s1, n1, n2⟩ := R.make' (h' := h) (sh' := sh.new (innerObj P et e sh.next)) (o1 := innerObj P et e sh.next) (l := .nil) (acs := []) (G := []) (K := fun _ => False) (Nat.le_refl _) hsh rfl rfl hown (fun c _ => .inl rfl) R.none_
      (fun a q => by rcases q with q | ⟨_, q⟩; cases q; simp at q) (fun _ => ⟨List.nodup_nil, by simp⟩)
      (fun H' x n k f s => by
       unfold innerObj
       cases slicy P deep et with
       | true => exact .tree0 v1 n g1 g2 f
       | false => exact .arr0 v1 n g1 g2)
     exact ⟨rfl, H', x1, R1, s1, .cons (.view0 n1) .nil, still n2.1 n2.2.1 n1 n2.2.2 (fun a q => by cases q) (fun _ a q => by simp at q)⟩
    ·obtain ⟨nd1, nd2⟩ := List.nodup_cons.1 hN
     have v5' : ORow sz (OV P h deep et) li ci Gi := v5.imp fun _ _ _ _ q => q.le (by omega)
     obtain ⟨H', x1, R1, s1, n1, n2⟩ := R.make' (h' := h) (sh' := sh.new (innerObj P et e sh.next)) (o1 := innerObj P et e sh.next) (l := .blk ai li.length sz) (acs := ci) (G := Gi) (K := fun _ => False) (Nat.le_refl _) hsh rfl rfl hown (fun c _ => .inl rfl) R.none_
      (fun a q => by
       rcases q with q | ⟨_, q⟩
       ·simp only [Loc.at, Option.some.injEq] at q; subst q; exact .inl (hF _ (by simp))
       ·exact .inl (hF _ (by simp [q])))
      (fun _ => ⟨nd2, fun a q => by simp only [Loc.at, Option.some.injEq] at q; subst q; exact nd1⟩)
      (fun H' x n k f s => by
       unfold innerObj
       cases hsl : slicy P deep et with
       | true => exact .tree v1 n ⟨g1, g2, rfl, v4⟩ (by rw [f]; exact v5')
       | false => exact .arr v1 n ⟨g1, g2, rfl, v4, v5'.toP fun _ _ K _ q => q.pv (by rw [q.flatF hsl]; simp)⟩ k)
     exact ⟨rfl, H', x1, R1, s1, .cons (.view n1) .nil, still n2.1 n2.2.1 n1 n2.2.2 (fun a q => by simp only [Loc.at, Option.some.injEq] at q; subst q; simp) (fun _ a q => by simp [q])⟩
   ·rename_i fields hu
    rw [hu] at g
    simp only at g
    obtain ⟨xs, x1, x2⟩ := g
    have key : ∀ (fs : List Field) (j pos : Nat) (pre ys : List V) (cs : List AV) (F : List Nat) (sh : SHeap) (H : Hid) (sh' : SHeap) (acc svs : List SV), xs = pre ++ ys -> pre.length = j -> HR P h0 h H ρ sh -> OFl P (OV P h d') fs pos ys cs F -> F.Nodup -> (∀ a ∈ F, Free h0 H sh a /\ a < h.next) ->
      (fs.zipIdx j).foldl (fun r f => match r with | some r => (match ownRes P d f.1.type (e.get' (.il (Int.ofNat f.2))) r.1 with | some q => some (q.1, r.2 ++ q.2) | none => none) | none => none) (some (sh, acc)) = some (sh', svs) ->
      sh'.nv = sh.nv /\ ∃ H' new, svs = acc ++ new /\ HExt h H h H' /\ HR P h0 h H' ρ sh' /\ SGrow h0 H H' /\ SDs P h H' ρ new cs /\ StillFree h0 H sh H' sh' F := by
     intro fs
     induction fs with
     | nil =>
      intro j pos pre ys cs F sh H sh' acc svs _ _ R g hN hF hf
      simp at hf
      obtain ⟨rfl, rfl⟩ := hf
      obtain ⟨_, rfl, rfl⟩ := g
      exact ⟨rfl, H, [], by simp, HExt.refl _ _, R, SGrow.refl _ _, .nil, fun a q _ => q⟩
     | cons f fs ihf =>
      intro j pos pre ys cs F sh H sh' acc svs hx hp R g hN hF hf
      obtain ⟨x, ys', c, r, G, K, rfl, rfl, rfl, ho, ga, gb⟩ := g
      rw [List.zipIdx_cons, List.foldl_cons] at hf
      simp only at hf
      cases hv : ownRes P d f.type (e.get' (.il (Int.ofNat j))) sh with
      | none =>
       rw [hv] at hf
       rw [foldl_none _ (fun _ => rfl)] at hf
       cases hf
      | some q =>
       obtain ⟨sh1, sv1⟩ := q
       rw [hv] at hf
       simp only at hf
       have hval : (e.get' (.il (Int.ofNat j))).v ρ = x := by
        rw [get'_v, x1, hx]
        show (V.list (pre ++ x :: ys')).get (Int.ofNat j) = x
        rw [V.get_list, <- hp]; simp
       obtain ⟨n1, n2, n3⟩ := List.nodup_append.1 hN
       obtain ⟨w0, H1, w1, w2, w3, w4, w5⟩ := ih (d' := d') R hv (by omega) (by rw [hval]; exact ga) n1 (fun a ha => hF a (by simp [ha]))
       obtain ⟨z0, H2, new, z1, z2, z3, z4, z5, z6⟩ := ihf (j + 1) (pos + c.length) (pre ++ [x]) ys' r K sh1 H1 sh' (acc ++ sv1) svs (by rw [hx]; simp) (by simp [hp]) w2 gb n2 (fun a ha => by
        obtain ⟨q1, q2⟩ := hF a (by simp [ha])
        exact ⟨w5 a q1 (fun hg => n3 a hg a ha rfl), q2⟩) hf
       exact ⟨by rw [z0, w0], H2, sv1 ++ new, by rw [z1, List.append_assoc], w1.trans z2, z3, w3.trans z4, (w4.mono z2).append z5, fun a q hna => z6 a (w5 a q fun hg => hna (by simp [hg])) fun hk => hna (by simp [hk])⟩
    obtain ⟨z0, H', new, z1, z2⟩ := key fields.toList 0 0 [] xs cs F sh H sh' [] svs rfl rfl R x2 hN hF k
    simp only [List.nil_append] at z1
    subst z1
    exact ⟨z0, H', z2⟩
   ·cases k
end
end Go.Sym
namespace Go.Sym
open Go Go.Abs
section
variable {P : Program} {h h' : Heap} {H : Hid} {ρ : Env} {h0 : Heap} {sh : SHeap}
theorem freeze1_nv (sh : SHeap) (x : SV) : (freeze1 sh x).nv = sh.nv := freeze1_nv' sh x
theorem freezes_nv : ∀ (l : List SV) (sh : SHeap), (freezes sh l).nv = sh.nv
 | [], _ => rfl
 | x :: l, sh => by
  show (freezes (freeze1 sh x) l).nv = _
  rw [freezes_nv l, freeze1_nv]
noncomputable def Hid.call (H : Hid) (n lo hi : Nat) (cs : List AV) : Hid :=
 { H with κ := fun m => if m = n then cs else H.κ m, S := fun c => H.S c \/ (lo <= c /\ c < hi) }
theorem HR.call (R : HR P h0 h H ρ sh) (hn : h.next <= h'.next) (hk : ∀ c, c < h.next -> h'.get c = h.get c) (ho : ∀ c, h'.next <= c -> h'.get c = none) (cs : List AV) :
  HExt h H h' (H.call sh.ats h.next h'.next cs) /\ HR P h0 h' (H.call sh.ats h.next h'.next cs) ρ { sh with ats := sh.ats + 1, nv := sh.nv + 1 } := by
 have hx : HExt h H h' (H.call sh.ats h.next h'.next cs) := ⟨fun _ _ e => e, fun n j av e => by
   simp only [Hid.call]
   by_cases hm : n = sh.ats
   ·subst hm; rw [R.ka _ (Nat.le_refl _)] at e; simp at e
   ·rw [if_neg hm]; exact e,
  fun _ _ _ _ e => e, fun c hc => ⟨.inl hc, fun _ e => by rw [hk c (R.S_lt c hc)]; exact e⟩⟩
 refine ⟨hx, ⟨?_, R.inj, ?_, ?_, ?_, ?_, R.nu_none, ?_, ?_, R.kb, ho, R.blk_lt, R.tr.step (fun _ _ e w => ⟨_, e, w, rfl⟩) (fun b o a e w ha q => q.elim id fun q => by have := (R.tr.lt _ _ e w a ha).2.2; omega) (fun _ _ _ _ e w n l => .inl ⟨_, _, _, e, w, n, l⟩) hn⟩⟩
 ·intro b o e
  refine ObjR.mono hx (fun w => ⟨rfl, fun a ha ob g => by rw [hk a (R.tr.lt _ _ e w a ha).2.2]; exact g⟩) ?_ (fun _ _ _ _ => rfl) ?_ (R.objs _ _ e)
  ·intro l a n1 l1 ob g
   rw [hk a (R.nu_lt _ _ _ n1 l1)]; exact g
  ·intro n hn'
   have := R.ka_lt hn'
   simp only [Hid.call]; rw [if_neg (by omega)]
 ·intro b o l a e w n1 l1
  obtain ⟨q1, q2⟩ := R.ownS _ _ _ _ e w n1 l1
  have := R.nu_lt _ _ _ n1 l1
  exact ⟨fun q => q.elim q1 fun q => by omega, q2⟩
 ·rintro a (q | q)
  ·have := R.S_lt a q; omega
  ·exact q.2
 ·have := R.next; omega
 ·intro c hc
  rw [hk c (by have := R.next; omega)]; exact R.keep c hc
 ·intro b l a n1 l1
  have := R.nu_lt _ _ _ n1 l1; omega
 ·intro n hn'
  have hn' : sh.ats + 1 <= n := hn'
  simp only [Hid.call]; rw [if_neg (by omega)]; exact R.ka _ (by omega)
theorem contract_rel (R : HR P h0 h H ρ sh) {f : FuncId} {as_ : List SV} {bs : List AV} {sh1 : SHeap} {es : List E} {v : SV} (g : SDs P h H ρ as_ bs) (k : scontract P sh f as_ = some (sh1, es, v)) (hf : Fn P f (es.map (E.v ρ)) (ρ.v.getD sh.nv .nil)) (callers : List AFrame) :
  sh1.nv = sh.nv + 1 /\ ∃ fn gf gE h' H' us, P.funcs[f]? = some fn /\ enter P f bs false = some gf /\ HExt h H h' H' /\ HR P h0 h' H' ρ sh1 /\ SD P h' H' ρ v (packed us) /\ SGrow h0 H H' /\
   gE.fn = f /\ gE.mode = .returning /\ gE.defers = [] /\ gE.deferred = false /\ aresults P h' gE.tm fn.results.toList = some us /\ Leads P ⟨gf, callers, h⟩ ⟨gE, callers, h'⟩ := by
 unfold scontract at k
 split at k
 ·rename_i fn hfn
  simp only at k
  generalize hsl : fn.resultTypes.toList.any (slicy P deep) = sl at k
  -- the heap behind the freezing
  generalize hvw : cond sl (viewsOf as_) (innerViews as_) = vw at k
  obtain ⟨H0, x0, R0, s0⟩ : ∃ H', HExt h H h H' /\ HR P h0 h H' ρ (settleFor P sh vw) /\ SGrow h0 H H' := settleL_rel (P := P) _ R
  obtain ⟨H1, x1, R1, s1⟩ := freezes_rel (P := P) vw R0
  have x1 := x0.trans x1
  have s1 := s0.trans s1
  have hnv := freezes_nv vw (settleFor P sh vw)
  rw [show (settleFor P sh vw).nv = sh.nv from settleL_nv _ _] at hnv
  generalize freezes (settleFor P sh vw) vw = shz at k R1 hnv
  split at k
  ·rename_i es' v' h1 h2
   cases k
   refine ⟨by simp [hnv], ?_⟩
   have ga := argsE_rel R1 (g.mono x1) h1
   obtain ⟨gf, f1, hf⟩ := hf h (argS h H1 (!sl)) bs fn hfn (by
    intro c hc
    cases sl
    ·exact hc
    ·exact R1.S_lt c hc) R1.none_ ga
   obtain ⟨gE, h', us, f2, f3, f4, f5, f6, f7, f8, f9, f10, f11⟩ := hf callers
   obtain ⟨x2, R2⟩ := R1.call f2 f3 f4 (us.flatMap AV.cells)
   refine ⟨fn, gf, gE, h', _, us, hfn, f1, x1.trans x2, R2, ?_, s1.trans ?_, f6, f7, f8, f9, f10, f11⟩
   ·refine resultOf_rel (n := shz.ats) (e := .vv shz.nv) (ts := fn.resultTypes.toList) ?_ h2 (by simp [Hid.call])
    have : (E.vv shz.nv).v ρ = ρ.v.getD sh.nv .nil := by rw [hnv]; rfl
    rw [this]
    cases sl with
    | false => exact f5.flat hsl
    | true => exact f5
   ·rintro a (q | q)
    ·exact .inl q
    ·have := R1.next; exact .inr (by omega)
  ·cases k
 ·cases k
theorem ownResults_rel {n : Nat} {rs : List V} {e : E} (he : e.v ρ = .list rs) : ∀ {ts : List TypeId} {j : Nat} {xs : List V} {us : List AV} {F : List Nat} {sh sh' : SHeap} {H : Hid} {vs : List SV}, HR P h0 h H ρ sh -> ownResults P e j ts sh = some (sh', vs) -> rs.drop j = xs -> ArgsO P h ts xs us F -> F.Nodup -> (∀ a ∈ F, Free h0 H sh a /\ a < h.next) ->
  sh'.nv = sh.nv /\ ∃ H', HExt h H h H' /\ HR P h0 h H' ρ sh' /\ SGrow h0 H H' /\ SDs P h H' ρ vs us
 | [], j, xs, us, F, sh, sh', H, vs, R, k, hx, g, hN, hF => by
  cases k; cases g
  exact ⟨rfl, H, HExt.refl _ _, R, SGrow.refl _ _, .nil⟩
 | t :: ts, j, xs, us, F, sh, sh', H, vs, R, k, hx, g, hN, hF => by
  cases g with
  | cons ga gb =>
   rename_i x a F1 F2 xs' us'
   unfold ownResults at k
   split at k
   case h_2 => cases k
   rename_i q hq
   obtain ⟨sh1, cs1⟩ := q
   split at k
   case h_2 => cases k
   rename_i v q2 hv hq2
   obtain ⟨sh2, vs2⟩ := q2
   cases k
   obtain ⟨n1, n2, n3⟩ := List.nodup_append.1 hN
   have hxj : rs[j]? = some x := by
    have := congrArg List.head? hx
    simpa [List.head?_drop] using this
   obtain ⟨cs, o1, o2⟩ := ga
   have hval : (e.get' (.il (Int.ofNat j))).v ρ = x := by
    rw [get'_v, he]
    show (V.list rs).get (Int.ofNat j) = x
    rw [V.get_list, hxj]; rfl
   obtain ⟨w0, H1, w1, w2, w3, w4, w5⟩ := ownRes_rel (d' := deep) R hq (Nat.le_refl _) (by rw [hval]; exact o1) n1 (fun a ha => hF a (by simp [ha]))
   have hx' : rs.drop (j + 1) = xs' := by
    have : rs.drop (j + 1) = (rs.drop j).drop 1 := by rw [List.drop_drop]
    rw [this, hx]; rfl
   obtain ⟨z0, H2, z1, z2, z3, z4⟩ := ownResults_rel (n := n) he w2 hq2 hx' gb n2 (fun a ha => by
    obtain ⟨q1, q2⟩ := hF a (by simp [ha])
    exact ⟨w5 a q1 fun hg => n3 a hg a ha rfl, q2⟩)
   exact ⟨by rw [z0, w0], H2, w1.trans z1, z2, w3.trans z3, .cons ((packS_rel (x := x) w4 o2 hv).mono z1) z4⟩
theorem contractO_rel (R : HR P h0 h H ρ sh) {f : FuncId} {as_ : List SV} {bs : List AV} {sh1 : SHeap} {es : List E} {v : SV} (g : SDs P h H ρ as_ bs) (k : scontractO P sh f as_ = some (sh1, es, v)) (hf : FnO P f (es.map (E.v ρ)) (ρ.v.getD sh.nv .nil)) (callers : List AFrame) :
  sh1.nv = sh.nv + 1 /\ ∃ fn gf gE h' H' us, P.funcs[f]? = some fn /\ enter P f bs false = some gf /\ HExt h H h' H' /\ HR P h0 h' H' ρ sh1 /\ SD P h' H' ρ v (packed us) /\ SGrow h0 H H' /\
   gE.fn = f /\ gE.mode = .returning /\ gE.defers = [] /\ gE.deferred = false /\ aresults P h' gE.tm fn.results.toList = some us /\ Leads P ⟨gf, callers, h⟩ ⟨gE, callers, h'⟩ := by
 unfold scontractO at k
 split at k
 case h_2 => cases k
 rename_i fn hfn
 simp only at k
 obtain ⟨H0, x0, R0, s0⟩ : ∃ H', HExt h H h H' /\ HR P h0 h H' ρ (settleFor P sh (viewsOf as_)) /\ SGrow h0 H H' := settleL_rel (P := P) _ R
 have hnv : (settleFor P sh (viewsOf as_)).nv = sh.nv := settleL_nv _ sh
 generalize settleFor P sh (viewsOf as_) = sz at k R0 hnv
 split at k
 case h_2 => cases k
 rename_i es' hes
 obtain ⟨H1, x1, R1, _⟩ := freezes_rel (P := P) (viewsOf as_) R0
 have ga := argsE_rel R1 ((g.mono x0).mono x1) hes
 -- the call
 have call : ∀ r, FnO P f (es'.map (E.v ρ)) r -> ∃ gf, enter P f bs false = some gf /\ ∃ gE h' us F, h.next <= h'.next /\ (∀ c, c < h.next -> h'.get c = h.get c) /\ (∀ c, h'.next <= c -> h'.get c = none) /\ ResO P h' fn.resultTypes.toList r us F /\ F.Nodup /\ (∀ a, a ∈ F -> h.next <= a /\ a < h'.next) /\
   gE.fn = f /\ gE.mode = .returning /\ gE.defers = [] /\ gE.deferred = false /\ aresults P h' gE.tm fn.results.toList = some us /\ Leads P ⟨gf, callers, h⟩ ⟨gE, callers, h'⟩ := by
  intro r hf
  obtain ⟨gf, f1, hf⟩ := hf h (argS h H1 false) bs fn hfn (fun c hc => R1.S_lt c hc) R1.none_ ga
  exact ⟨gf, f1, hf callers⟩
 have free : ∀ {h' : Heap} {F : List Nat}, (∀ a, a ∈ F -> h.next <= a /\ a < h'.next) -> ∀ a ∈ F, Free h0 H0 { sz with nv := sz.nv + 1 } a /\ a < h'.next := by
  intro h' F hF a ha
  obtain ⟨q1, q2, q3⟩ := R0.free (hF a ha).1
  exact ⟨⟨q1, q2, q3⟩, (hF a ha).2⟩
 have hvv : (E.vv sz.nv).v ρ = ρ.v.getD sh.nv .nil := by rw [hnv]; rfl
 split at k
 ·rename_i t ht
  split at k
  case h_2 => cases k
  rename_i q hq
  obtain ⟨sq, cq⟩ := q
  simp only [Option.map_eq_some_iff, Prod.mk.injEq] at k
  obtain ⟨v', hv, rfl, rfl, rfl⟩ := k
  obtain ⟨gf, f1, gE, h', us, F, f2, f3, f4, f5, f6, f7, f8⟩ := call _ hf
  obtain ⟨x2, R2⟩ := R0.grow f2 f3 f4
  unfold ResO at f5
  rw [ht] at f5
  simp only at f5
  obtain ⟨u, rfl, cs, o1, o2⟩ := f5
  obtain ⟨w0, H3, w1, w2, w3, w4, _⟩ := ownRes_rel (d' := deep) R2 hq (Nat.le_refl _) (by rw [hvv]; exact o1) f6 (free f7)
  refine ⟨by rw [w0]; show sz.nv + 1 = _; rw [hnv], fn, gf, gE, h', H3, [u], hfn, f1, (x0.trans x2).trans w1, w2, ?_, s0.trans w3, f8⟩
  exact packS_rel (x := .nil) w4 o2 hv
 ·rename_i ts hne
  simp only [Option.map_eq_some_iff, Prod.mk.injEq] at k
  obtain ⟨⟨sq, cq⟩, hq, rfl, rfl, rfl⟩ := k
  obtain ⟨gf, f1, gE, h', us, F, f2, f3, f4, f5, f6, f7, f8⟩ := call _ hf
  obtain ⟨x2, R2⟩ := R0.grow f2 f3 f4
  unfold ResO at f5
  split at f5
  ·rename_i t ht; exact absurd ht (hne _)
  ·obtain ⟨rs, hr, f5⟩ := f5
   obtain ⟨w0, H3, w1, w2, w3, w4⟩ := ownResults_rel (n := 0) (e := .vv sz.nv) (by rw [hvv]; exact hr) R2 hq rfl f5 f6 (free f7)
   refine ⟨by rw [w0]; show sz.nv + 1 = _; rw [hnv], fn, gf, gE, h', H3, us, hfn, f1, (x0.trans x2).trans w1, w2, ?_, s0.trans w3, f8⟩
   cases w4 with
   | nil => exact .tuple .nil
   | cons a b =>
    cases b with
    | nil =>
     exfalso
     generalize hts : fn.resultTypes.toList = tl at f5
     cases f5 with
     | cons _ g2 => cases g2; exact hne _ hts
    | cons _ _ => exact .tuple (.cons a (.cons ‹_› ‹_›))
end
def EvOk (P : Program) (ρ : Env) : Nat -> List Ev -> Prop
 | _, [] => True
 | nv, .ask e :: l => e.b ρ = true /\ EvOk P ρ nv l
 | nv, .call f es :: l => Fn P f (es.map (E.v ρ)) (ρ.v.getD nv .nil) /\ EvOk P ρ (nv + 1) l
 | nv, .callO f es :: l => FnO P f (es.map (E.v ρ)) (ρ.v.getD nv .nil) /\ EvOk P ρ (nv + 1) l
def ncalls : List Ev -> Nat
 | [] => 0
 | .ask _ :: l => ncalls l
 | .call _ _ :: l => ncalls l + 1
 | .callO _ _ :: l => ncalls l + 1
theorem ncalls_append : ∀ (a b : List Ev), ncalls (a ++ b) = ncalls a + ncalls b
 | [], b => by simp [ncalls]
 | .ask _ :: a, b => by simp only [List.cons_append, ncalls]; exact ncalls_append a b
 | .call _ _ :: a, b => by simp only [List.cons_append, ncalls, ncalls_append a b]; omega
 | .callO _ _ :: a, b => by simp only [List.cons_append, ncalls, ncalls_append a b]; omega
theorem ncalls_asks (l : List E) : ncalls (asks l) = 0 := by
 induction l with
 | nil => rfl
 | cons a l ih => exact ih
theorem EvOk.append {P : Program} {ρ : Env} : ∀ {a b : List Ev} {nv : Nat}, EvOk P ρ nv (a ++ b) ↔ EvOk P ρ nv a /\ EvOk P ρ (nv + ncalls a) b
 | [], b, nv => by simp [EvOk, ncalls]
 | .ask e :: a, b, nv => by simp only [List.cons_append, EvOk, ncalls, EvOk.append (a := a), and_assoc]
 | .call f es :: a, b, nv => by
  simp only [List.cons_append, EvOk, ncalls, EvOk.append (a := a), and_assoc]
  rw [show nv + (ncalls a + 1) = nv + 1 + ncalls a from by omega]
 | .callO f es :: a, b, nv => by
  simp only [List.cons_append, EvOk, ncalls, EvOk.append (a := a), and_assoc]
  rw [show nv + (ncalls a + 1) = nv + 1 + ncalls a from by omega]
theorem EvOk.asks {P : Program} {ρ : Env} {l : List E} {nv : Nat} : EvOk P ρ nv (asks l) ↔ Holds ρ l := by
 induction l with
 | nil => exact ⟨fun _ => by intro c hc; simp at hc, fun _ => trivial⟩
 | cons a l ih =>
  show (a.b ρ = true /\ EvOk P ρ nv (Sym.asks l)) ↔ _
  rw [ih]
  exact ⟨fun ⟨h1, h2⟩ c hc => by rcases List.mem_cons.1 hc with rfl | hc; exact h1; exact h2 c hc, fun h => ⟨h a (by simp), fun c hc => h c (by simp [hc])⟩⟩
end Go.Sym
namespace Go.Sym
open Go Go.Abs
theorem leads_step {P : Program} (K : ProgOk P) {pl : Plans} {m m' : AMach} (e : astep P pl m = some m') : Leads P m m' := fun I _ w0 μ c cs tl w r => astep_sim K e r
section
variable {C : Cfg} {h : Heap} {H : Hid} {ρ : Env} {h0 : Heap} {S0 : Nat -> Prop} {outer : List AFrame} {sh : SHeap}
def Base (h0 : Heap) (S0 : Nat -> Prop) (H : Hid) : Prop := ∀ a, H.S a -> S0 a \/ h0.next <= a
theorem Base.grow {H' : Hid} (b : Base h0 S0 H) (g : SGrow h0 H H') : Base h0 S0 H' := fun a ha => (g a ha).elim (b a) .inr
theorem svalue_rel (R : HR C.P h0 h H ρ sh) (B : Base h0 S0 H) {fr : SFrame} {f : AFrame} {callers : List SFrame} {cs : List AFrame} {v : SV} {u : AV} {ev : List Ev} {ch : List Bool} {o : Out} {nv : Nat} (gf : FR C.P h H ρ fr f) (gc : FRs C.P h H ρ callers cs) (gv : SD C.P h H ρ v u)
  (e : svalue C fr callers sh v ev ch = some o) (hev : EvOk C.P ρ nv o.ev) :
  ∃ f', afinish C.P h f u = some f' /\ MR C.P h0 S0 outer ρ o.m { fr := f', callers := cs ++ outer, h } /\ o.m.h = sh /\ ∃ l, o.ev = ev ++ asks l := by
 unfold svalue at e
 simp only [Option.map_eq_some_iff] at e
 obtain ⟨⟨fr', l⟩, e1, rfl⟩ := e
 simp only at hev
 rw [EvOk.append, EvOk.asks] at hev
 obtain ⟨f', w1, w2⟩ := sfinish_rel R rfl gf gv e1 hev.2
 exact ⟨f', w1, ⟨H, cs, rfl, w2, gc, R, B⟩, rfl, l, rfl⟩
theorem sapply_rel (K : ProgOk C.P) (R : HR C.P h0 h H ρ sh) (B : Base h0 S0 H) {fr : SFrame} {f : AFrame} {callers : List SFrame} {cs : List AFrame} {n : SNext} {an : ANext} {args : List SV} {aargs : List AV} {ev : List Ev} {ch : List Bool} {o : Out} {m : AMach} (hm : fr.mode = .run)
  (gf : FR C.P h H ρ fr f) (gc : FRs C.P h H ρ callers cs) (gn : NextR C.P h H ρ n an) (ga : SDs C.P h H ρ args aargs) (nv0 : Nat) (hnv : sh.nv = nv0 + ncalls ev)
  (e : sapply C fr callers n sh args ev ch = some o) (hev : EvOk C.P ρ nv0 o.ev) (pre : ∀ m', apply C.P f (cs ++ outer) an h aargs = some m' -> Leads C.P m m') :
  (∃ m', Leads C.P m m' /\ MR C.P h0 S0 outer ρ o.m m') /\ o.m.h.nv = nv0 + ncalls o.ev := by
 have val : ∀ {v : SV} {u : AV} {f : AFrame} {fr : SFrame}, FR C.P h H ρ fr f -> SD C.P h H ρ v u -> svalue C fr callers sh v ev ch = some o -> (∀ f', afinish C.P h f u = some f' -> Leads C.P m ⟨f', cs ++ outer, h⟩) -> (∃ m', Leads C.P m m' /\ MR C.P h0 S0 outer ρ o.m m') /\ o.m.h.nv = nv0 + ncalls o.ev := by
  intro v u f fr gf gv e k
  obtain ⟨f', w1, w2, w3, l, w4⟩ := svalue_rel R B (outer := outer) (S0 := S0) gf gc gv e hev
  refine ⟨⟨_, k f' w1, w2⟩, ?_⟩
  rw [w3, w4, ncalls_append, ncalls_asks]; omega
 unfold sapply at e
 cases gn with
 | value gv =>
  exact val gf gv e fun f' hf => pre _ (by simp only [apply, hf])
 | enter gargs =>
  rename_i fn as_ bs
  simp only at e
  cases hc : C.ctr.contains fn with
  | true =>
   rw [hc] at e
   simp only [cond_true] at e
   split at e
   ·rename_i sh1 es v hk
    have hev2 := hev
    unfold svalue at e
    simp only [Option.map_eq_some_iff] at e
    obtain ⟨⟨fr', l⟩, e1, rfl⟩ := e
    simp only at hev ⊢
    rw [EvOk.append, EvOk.append] at hev
    obtain ⟨⟨_, hcall, _⟩, hl⟩ := hev
    rw [EvOk.asks] at hl
    rw [<- hnv] at hcall
    obtain ⟨hn1, func, gfr, gE, h', H', us, c1, c2, c3, c4, c5, c6, c7, c8, c9, c10, c11, c12⟩ := contract_rel R gargs hk hcall (f :: (cs ++ outer))
    obtain ⟨f', w1, w2⟩ := sfinish_rel c4 rfl (gf.mono c3) c5 e1 hl
    refine ⟨⟨⟨f', cs ++ outer, h'⟩, ?_, ⟨H', cs, rfl, w2, gc.mono c3, c4, B.grow c6⟩⟩, ?_⟩
    ·refine (pre ⟨gfr, f :: (cs ++ outer), h⟩ (by simp only [apply, c2])).trans (c12.trans (leads_step K (pl := C.pl) ?_))
     have hfm : f.mode = .run := by have := gf.mode; rw [hm] at this; exact this.run_iff
     have ar : areturn C.P gE (f :: (cs ++ outer)) (packed us) h' = some ⟨f', cs ++ outer, h'⟩ := by
      simp only [areturn, c10, cond_false, hfm, w1]
     unfold astep
     simp only [c8]
     unfold Abs.unwind
     simp only [c9, c8, c7, c1, c11]
     cases us with
     | nil => exact ar
     | cons a b => cases b <;> exact ar
    ·rw [hn1, ncalls_append, ncalls_append, ncalls_asks]; simp only [ncalls]; omega
   ·cases e
  | false =>
   rw [hc] at e
   simp only [cond_false] at e
   cases hcO : C.ctrO.contains fn with
   | true =>
    rw [hcO] at e
    simp only [cond_true] at e
    split at e
    ·rename_i sh1 es v hk
     have hev2 := hev
     unfold svalue at e
     simp only [Option.map_eq_some_iff] at e
     obtain ⟨⟨fr', l⟩, e1, rfl⟩ := e
     simp only at hev ⊢
     rw [EvOk.append, EvOk.append] at hev
     obtain ⟨⟨_, hcall, _⟩, hl⟩ := hev
     rw [EvOk.asks] at hl
     rw [<- hnv] at hcall
     obtain ⟨hn1, func, gfr, gE, h', H', us, c1, c2, c3, c4, c5, c6, c7, c8, c9, c10, c11, c12⟩ := contractO_rel R gargs hk hcall (f :: (cs ++ outer))
     obtain ⟨f', w1, w2⟩ := sfinish_rel c4 rfl (gf.mono c3) c5 e1 hl
     refine ⟨⟨⟨f', cs ++ outer, h'⟩, ?_, ⟨H', cs, rfl, w2, gc.mono c3, c4, B.grow c6⟩⟩, ?_⟩
     ·refine (pre ⟨gfr, f :: (cs ++ outer), h⟩ (by simp only [apply, c2])).trans (c12.trans (leads_step K (pl := C.pl) ?_))
      have hfm : f.mode = .run := by have := gf.mode; rw [hm] at this; exact this.run_iff
      have ar : areturn C.P gE (f :: (cs ++ outer)) (packed us) h' = some ⟨f', cs ++ outer, h'⟩ := by
       simp only [areturn, c10, cond_false, hfm, w1]
      unfold astep
      simp only [c8]
      unfold Abs.unwind
      simp only [c9, c8, c7, c1, c11]
      cases us with
      | nil => exact ar
      | cons a b => cases b <;> exact ar
     ·rw [hn1, ncalls_append, ncalls_append, ncalls_asks]; simp only [ncalls]; omega
    ·cases e
   | false =>
    rw [hcO] at e
    simp only [cond_false] at e
    split at e
    ·rename_i g hg
     cases e
     obtain ⟨f', w1, w2⟩ := senter_rel gargs hg
     exact ⟨⟨⟨f', f :: (cs ++ outer), h⟩, pre _ (by simp only [apply, w1]), ⟨H, f :: cs, rfl, w2, .cons gf gc, R, B⟩⟩, hnv⟩
    ·cases e
 | round hq =>
  rename_i l a
  simp only at e
  split at e
  ·rename_i r hr
   split at e
   ·rename_i func hfn
    split at e
    ·rename_i g hg
     cases e
     obtain ⟨r', k1, k2, k3, k4⟩ := sgetLoop_rel R hq hr
     obtain ⟨f', w1, w2⟩ := sroundFrame_rel hq k2 ga hg
     refine ⟨⟨⟨f', f :: (cs ++ outer), h⟩, pre _ (by simp only [apply, k1, k2.fn, hfn, w1]), ⟨H, f :: cs, rfl, w2, .cons gf gc, R, B⟩⟩, hnv⟩
    ·cases e
   ·cases e
  ·cases e
 | defer gd =>
  rename_i d d'
  simp only at e
  have gr := gf.round
  split at e
  ·rename_i hro
   rw [hro] at gr
   generalize hfr : f.roundOf = fro at gr
   cases gr
   refine val (f := { f with defers := d' :: f.defers }) (fr := { fr with defers := d :: fr.defers }) ⟨gf.fn, gf.nt, gf.tm, gf.todo, .cons gd gf.defers, gf.mode, gf.deferred, gf.round⟩ (.bad .bad) e fun f' hf => pre _ ?_
   simp only [hfr] at hf
   simp only [apply, hfr, hf]
  ·cases e
 | recover =>
  simp only at e
  have gr := gf.round
  split at e
  ·rename_i hro
   rw [hro] at gr
   generalize hfr : f.roundOf = fro at gr
   cases gr
   split at e
   ·rename_i c rest hd
    cases gc with
    | cons g1 g2 =>
     rename_i y ys
     refine val gf .nili e fun f' hf => pre _ ?_
     have hfd : f.deferred = true := by rw [gf.deferred]; exact hd
     have hm1 := g1.mode
     simp only [apply, hfr, hfd, List.cons_append]
     cases hym : y.mode with
     | run => simp only [hf]
     | returning => simp only [hf]
     | panicking q => rw [hym] at hm1; cases hcm : c.mode <;> rw [hcm] at hm1 <;> exact hm1.elim
   ·cases e
  ·cases e
theorem sfresh_nv {P : Program} {sh sh' : SHeap} {x : Tr SV} {o : Oper} {v : SV} {l : List E} (e : sfresh P sh x o = some (sh', v, l)) : sh'.nv = sh.nv := by
 unfold sfresh at e
 split at e
 ·split at e
  ·obtain ⟨_, e⟩ := cond_ok e; cases e; rfl
  ·cases e
 ·split at e
  ·cases e
  ·obtain ⟨_, e⟩ := cond_ok e; cases e; rfl
 ·split at e
  ·split at e
   ·obtain ⟨_, e⟩ := cond_ok e
    split at e
    ·cases e; exact freezes_nv _ _
    ·cases e
   ·cases e
  ·cases e
 ·split at e
  ·split at e
   ·obtain ⟨_, e⟩ := cond_ok e
    split at e
    ·cases e; rfl
    ·cases e
   ·cases e
  ·cases e
 ·cases e
theorem streeFresh_nv {P : Program} {pol : Pol} {fn : FuncId} {sh sh' : SHeap} {x : Tr SV} {o : Oper} {v : SV} {l : List E} (e : streeFresh P pol fn sh x o = some (sh', v, l)) : sh'.nv = sh.nv := by
 unfold streeFresh at e
 obtain ⟨_, e⟩ := cond_ok e
 split at e
 ·split at e
  ·split at e
   ·obtain ⟨_, e⟩ := cond_ok e
    split at e
    ·obtain ⟨_, e⟩ := cond_ok e
     cases e; exact (kills_eq _ _).2.2
    ·cases e
   ·cases e
  ·cases e
 ·split at e
  ·split at e
   ·obtain ⟨_, e⟩ := cond_ok e
    split at e
    ·cases e; rfl
    ·cases e
   ·cases e
  ·cases e
 ·cases e
theorem treeStore_nv {P : Program} {sh sh' : SHeap} {t : TypeId} {a v : SV} {l : List E} (e : treeStore P sh t a v = some (sh', l)) : sh'.nv = sh.nv := by
 unfold treeStore at e
 split at e
 ·split at e
  ·split at e
   ·split at e
    ·cases hs : slicy P deep t with
     | true => rw [hs] at e; cases e
     | false =>
      rw [hs] at e
      simp only [cond_false] at e
      split at e
      ·obtain ⟨_, e⟩ := cond_ok e
       split at e
       ·cases e; rfl
       ·cases e
      ·cases e
    ·obtain ⟨_, e⟩ := cond_ok e
     split at e
     ·cases e; rfl
     ·split at e
      ·cases e; rfl
      ·cases e
     ·cases e
   ·cases e
  ·obtain ⟨_, e⟩ := cond_ok e
   split at e
   ·split at e
    ·cases e; rfl
    ·cases e
   ·cases e
  ·cases e
 ·cases e
theorem treeAppend_nv {P : Program} {sh sh' : SHeap} {st xt : TypeId} {s x v : SV} {l : List E} (e : treeAppend P sh st xt s x = some (v, sh', l)) : sh'.nv = sh.nv := by
 unfold treeAppend at e
 split at e
 ·split at e
  ·obtain ⟨_, e⟩ := cond_ok e
   split at e
   ·cases e; rfl
   ·split at e
    ·obtain ⟨_, e⟩ := cond_ok e
     cases e; rfl
    ·cases e
   ·cases e
  ·cases e
 ·cases e
theorem sheavy_nv {P : Program} {sh sh' : SHeap} {x : Tr SV} {o : Oper} {n : SNext} {l : List E} (e : sheavy P sh x o = some (n, sh', l)) : sh'.nv = sh.nv := by
 unfold sheavy at e
 split at e
 ·split at e
  rotate_left
  ·simp only [Option.map_eq_some_iff] at e
   obtain ⟨⟨r1, r2⟩, e1, e2⟩ := e
   simp only [Prod.mk.injEq] at e2
   obtain ⟨_, rfl, _⟩ := e2
   exact treeStore_nv e1
  rename_i r e1
  obtain ⟨r1, r2⟩ := r
  simp only [Option.some.injEq, Prod.mk.injEq] at e
  obtain ⟨_, rfl, _⟩ := e
  unfold sstore at e1
  split at e1
  ·split at e1
   ·split at e1
    ·obtain ⟨_, e1⟩ := cond_ok e1; cases e1; rfl
    ·cases e1
   ·cases e1
  ·simp only at e1
   split at e1
   ·split at e1
    ·obtain ⟨_, e1⟩ := cond_ok e1
     split at e1
     ·split at e1
      ·cases e1; exact freezes_nv _ _
      ·cases e1
     ·cases e1
    ·cases e1
   ·cases e1
  ·cases e1
 ·split at e
  ·split at e
   rotate_left
   ·simp only [Option.map_eq_some_iff] at e
    obtain ⟨⟨r1, r2, r3⟩, e1, e2⟩ := e
    simp only [Prod.mk.injEq] at e2
    obtain ⟨_, rfl, _⟩ := e2
    exact treeAppend_nv e1
   rename_i r e1
   obtain ⟨r1, r2, r3⟩ := r
   simp only [Option.some.injEq, Prod.mk.injEq] at e
   obtain ⟨_, rfl, _⟩ := e
   unfold sappend at e1
   split at e1
   ·split at e1
    ·obtain ⟨_, e1⟩ := cond_ok e1
     split at e1
     ·obtain ⟨_, e1⟩ := cond_ok e1
      split at e1
      ·cases e1; rfl
      ·split at e1
       ·obtain ⟨_, e1⟩ := cond_ok e1; cases e1; rfl
       ·cases e1
      ·cases e1
     ·cases e1
    ·cases e1
   ·cases e1
  ·simp only [Option.map_eq_some_iff] at e
   obtain ⟨⟨r1, r2, r3⟩, e1, e2⟩ := e
   simp only [Prod.mk.injEq] at e2
   obtain ⟨_, rfl, _⟩ := e2
   unfold scopy at e1
   split at e1
   ·split at e1
    ·split at e1
     ·split at e1
      ·obtain ⟨_, e1⟩ := cond_ok e1; cases e1; rfl
      ·cases e1
     ·cases e1
    ·cases e1
   ·cases e1
  ·cases e; rfl
  ·cases e
 ·simp only [Option.map_eq_some_iff] at e
  obtain ⟨r, e1, e2⟩ := e
  cases e2; rfl
 ·split at e
  ·cases e; rfl
  ·cases e
 ·cases e
theorem svalue_ev {fr : SFrame} {callers : List SFrame} {v : SV} {ev : List Ev} {ch : List Bool} {o : Out} (e : svalue C fr callers sh v ev ch = some o) : ∃ l, o.ev = ev ++ l := by
 unfold svalue at e
 simp only [Option.map_eq_some_iff] at e
 obtain ⟨r, _, rfl⟩ := e
 exact ⟨_, rfl⟩
theorem sapply_ev {fr : SFrame} {callers : List SFrame} {n : SNext} {args : List SV} {ev : List Ev} {ch : List Bool} {o : Out} (e : sapply C fr callers n sh args ev ch = some o) : ∃ l, o.ev = ev ++ l := by
 unfold sapply at e
 split at e
 ·exact svalue_ev e
 ·cases hc : C.ctr.contains _ with
  | false =>
   rw [hc] at e
   simp only [cond_false] at e
   cases hcO : C.ctrO.contains _ with
   | true =>
    rw [hcO] at e
    simp only [cond_true] at e
    split at e
    ·obtain ⟨l, hl⟩ := svalue_ev e
     exact ⟨_, by rw [hl, List.append_assoc]⟩
    ·cases e
   | false =>
    rw [hcO] at e
    simp only [cond_false] at e
    split at e
    ·cases e; exact ⟨[], by simp⟩
    ·cases e
  | true =>
   rw [hc] at e
   simp only [cond_true] at e
   split at e
   ·obtain ⟨l, hl⟩ := svalue_ev e
    exact ⟨_, by rw [hl, List.append_assoc]⟩
   ·cases e
 ·split at e
  ·split at e
   ·split at e
    ·cases e; exact ⟨[], by simp⟩
    ·cases e
   ·cases e
  ·cases e
 ·split at e
  ·exact svalue_ev e
  ·cases e
 ·split at e
  ·split at e
   ·exact svalue_ev e
   ·cases e
  ·cases e
theorem sdo1_rel (K : ProgOk C.P) (R : HR C.P h0 h H ρ sh) (B : Base h0 S0 H) {fr : SFrame} {f : AFrame} {callers : List SFrame} {cs : List AFrame} {op : Oper} {ev : List Ev} {ch : List Bool} {o : Out} {m : AMach} {ops : Array Oper} (hm : fr.mode = .run)
  (gf : FR C.P h H ρ fr f) (gc : FRs C.P h H ρ callers cs) (hne : ncalls ev = 0)
  (e : sdo1 C fr callers sh op ev ch = some o) (hev : EvOk C.P ρ sh.nv o.ev) (hw : awanted ops f.tm op = some true) (pre : ∀ m', aoper C.P f (cs ++ outer) h ops op = some m' -> Leads C.P m m') :
  (∃ m', Leads C.P m m' /\ MR C.P h0 S0 outer ρ o.m m') /\ o.m.h.nv = sh.nv + ncalls o.ev := by
 unfold sdo1 at e
 split at e
 ·rename_i v c hs
  have hev' := hev
  have hc : Holds ρ c := by
   unfold svalue at e
   simp only [Option.map_eq_some_iff] at e
   obtain ⟨⟨fr', l⟩, e1, rfl⟩ := e
   simp only at hev
   rw [EvOk.append, EvOk.append, EvOk.asks] at hev
   exact hev.1.2
  obtain ⟨u, u1, u2⟩ := slight_rel R gf.tm hs hc
  obtain ⟨f', w1, w2, w3, l, w4⟩ := svalue_rel R B (outer := outer) (S0 := S0) gf gc u2 e hev
  refine ⟨⟨_, pre _ (by simp only [aoper, hw, u1, w1]), w2⟩, ?_⟩
  rw [w3, w4, ncalls_append, ncalls_append, ncalls_asks, ncalls_asks]; omega
 ·rename_i hs
  split at e
  ·rename_i sh1 v c hs1
   have hc : Holds ρ c := by
    unfold svalue at e
    simp only [Option.map_eq_some_iff] at e
    obtain ⟨⟨fr', l⟩, e1, rfl⟩ := e
    simp only at hev
    rw [EvOk.append, EvOk.append, EvOk.asks] at hev
    exact hev.1.2
   have hfr : (∃ ob u H', alight C.P h f.tm op = none /\ afresh C.P h.next f.tm op = some (ob, u) /\ HExt h H (h.new ob) H' /\ HR C.P h0 (h.new ob) H' ρ sh1 /\ SD C.P (h.new ob) H' ρ v u /\ SGrow h0 H H') /\ sh1.nv = sh.nv := by
    split at hs1
    ·rename_i r hs2
     cases hs1
     exact ⟨streeFresh_rel R gf.tm hs2 hc, streeFresh_nv hs2⟩
    ·exact ⟨sfresh_rel R gf.tm hs1 hc, sfresh_nv hs1⟩
   obtain ⟨⟨ob, u, H', z1, z2, z3, z4, z5, z6⟩, hnv1⟩ := hfr
   obtain ⟨f', w1, w2, w3, l, w4⟩ := svalue_rel z4 (B.grow z6) (outer := outer) (S0 := S0) (gf.mono z3) (gc.mono z3) z5 e hev
   refine ⟨⟨_, pre _ (by simp only [aoper, hw, z1, z2, w1]), w2⟩, ?_⟩
   rw [w3, w4, ncalls_append, ncalls_append, ncalls_asks, ncalls_asks, hne]
   omega
  ·split at e
   ·rename_i n sh1 c hs1
    have hpre : ∃ l, o.ev = (ev ++ asks c) ++ l := sapply_ev e
    have hc : Holds ρ c := by
     obtain ⟨l, hl⟩ := hpre
     rw [hl, EvOk.append, EvOk.append, EvOk.asks] at hev
     exact hev.1.2
    obtain ⟨an, h', H', z1, z2, z3, z4, z5, z6, z7⟩ := sheavy_rel R gf.tm hs1 hc
    refine sapply_rel (aargs := match op.op with | .call c => c.args.toList.map (evalOp f.tm) | _ => []) K z5 (B.grow z7) hm (gf.mono z4) (gc.mono z4) z6 ?_ sh.nv ?_ e hev ?_
    ·cases op.op with
     | call c => exact SDs.map fun a _ => (sEval_rel gf.tm a).mono z4
     | _ => exact .nil
    ·rw [sheavy_nv hs1, ncalls_append, ncalls_asks, hne]; rfl
    ·intro m' hm'
     refine pre _ ?_
     simp only [aoper, hw, z1, z2, z3]
     exact hm'
   ·cases e
theorem svalue_ev' {fr : SFrame} {callers : List SFrame} {v : SV} {ev : List Ev} {ch : List Bool} {o : Out} {c : List E} (e : svalue C fr callers sh v (ev ++ asks c) ch = some o) : ∃ l, o.ev = ev ++ l := by
 obtain ⟨l, hl⟩ := svalue_ev e
 exact ⟨asks c ++ l, by rw [hl, List.append_assoc]⟩
theorem sdo1_ev {fr : SFrame} {callers : List SFrame} {op : Oper} {ev : List Ev} {ch : List Bool} {o : Out} (e : sdo1 C fr callers sh op ev ch = some o) : ∃ l, o.ev = ev ++ l := by
 unfold sdo1 at e
 split at e
 ·exact svalue_ev' e
 ·split at e
  ·exact svalue_ev' e
  ·split at e
   ·rename_i n sh1 c hs1
    obtain ⟨l, hl⟩ := sapply_ev e
    exact ⟨asks c ++ l, by rw [hl, List.append_assoc]⟩
   ·cases e
theorem sdo_rel (K : ProgOk C.P) (R : HR C.P h0 h H ρ sh) (B : Base h0 S0 H) {fr : SFrame} {f : AFrame} {callers : List SFrame} {cs : List AFrame} {op : Oper} {ev : List Ev} {ch : List Bool} {o : Out} {m : AMach} {ops : Array Oper} (hm : fr.mode = .run)
  (gf : FR C.P h H ρ fr f) (gc : FRs C.P h H ρ callers cs) (hne : ncalls ev = 0)
  (e : sdo C fr callers sh op ev ch = some o) (hev : EvOk C.P ρ sh.nv o.ev) (hw : awanted ops f.tm op = some true) (pre : ∀ m', aoper C.P f (cs ++ outer) h ops op = some m' -> Leads C.P m m') :
  (∃ m', Leads C.P m m' /\ MR C.P h0 S0 outer ρ o.m m') /\ o.m.h.nv = sh.nv + ncalls o.ev := by
 unfold sdo at e
 have hl : Holds ρ (sprep C.P (wraps C.pol fr.fn op.dst) sh fr.tm op).2 := by
  obtain ⟨l, hl⟩ := sdo1_ev e
  rw [hl, EvOk.append, EvOk.append, EvOk.asks] at hev
  exact hev.1.2
 have hnv := sprep_nv (P := C.P) (wraps C.pol fr.fn op.dst) sh fr.tm op
 obtain ⟨H1, x1, R1, s1⟩ := sprep_rel R hl
 have := sdo1_rel (S0 := S0) (outer := outer) (m := m) K R1 (B.grow s1) hm (gf.mono x1) (gc.mono x1) (by rw [ncalls_append, ncalls_asks, hne]) e (by rw [hnv]; exact hev) hw pre
 rw [hnv] at this
 exact this
end
end Go.Sym
namespace Go.Sym
open Go Go.Abs
section
variable {C : Cfg} {h : Heap} {H : Hid} {ρ : Env} {h0 : Heap} {S0 : Nat -> Prop} {outer : List AFrame} {sh : SHeap}
def Goes (C : Cfg) (h0 : Heap) (S0 : Nat -> Prop) (outer : List AFrame) (ρ : Env) (nv : Nat) (m : AMach) (o : Out) : Prop :=
 (∃ m', Leads C.P m m' /\ MR C.P h0 S0 outer ρ o.m m') /\ o.m.h.nv = nv + ncalls o.ev
theorem ixSplit_holds {e : E} : ∀ {n k : Nat} {ch ch' : List Bool} {j : Nat} {cs : List E}, ixSplit e n k ch = some (j, cs, ch') -> Holds ρ cs -> e.i ρ = Int.ofNat j
 | 0, _, _, _, _, _, q, _ => by cases q
 | n + 1, k, ch, ch', j, cs, q, hl => by
  unfold ixSplit at q
  split at q
  ·cases q
   have := hl _ (List.mem_singleton.2 rfl)
   simpa [E.b, E.i, eqB_iff] using this
  ·simp only [Option.map_eq_some_iff] at q
   obtain ⟨⟨j', cs', ch2⟩, q1, q2⟩ := q
   cases q2
   exact ixSplit_holds q1 fun c hc => hl c (List.mem_cons_of_mem _ hc)
  ·cases q
theorem ixOf_at {P : Program} {tm : Tr SV} {o : Oper} {d : Tmp} {k : IntKind} {e : E} {n : Nat} (q : ixOf P tm o = some (d, k, e, n)) : stGet tm d = .int k e := by
 obtain ⟨dst, op, type, pos, after, guard⟩ := o
 unfold ixOf at q
 simp only at q
 split at q
 ·split at q
  ·rename_i h2
   split at q
   ·cases q
   ·obtain ⟨_, q⟩ := cond_ok q
    cases q; exact h2
  ·cases q
 ·split at q
  ·rename_i h2
   split at q
   ·cases q
   ·obtain ⟨_, q⟩ := cond_ok q
    cases q; exact h2
  ·cases q
 ·cases q
theorem soper_rel (K : ProgOk C.P) (R : HR C.P h0 h H ρ sh) (B : Base h0 S0 H) {fr : SFrame} {f : AFrame} {callers : List SFrame} {cs : List AFrame} {op : Oper} {ch : List Bool} {o : Out} {m : AMach} {ops : Array Oper} (hm : fr.mode = .run)
  (gf : FR C.P h H ρ fr f) (gc : FRs C.P h H ρ callers cs)
  (e : soper C fr callers sh ops op ch = some o) (hev : EvOk C.P ρ sh.nv o.ev) (self : Leads C.P m ⟨f, cs ++ outer, h⟩) (pre : ∀ m', aoper C.P f (cs ++ outer) h ops op = some m' -> Leads C.P m m') : Goes C h0 S0 outer ρ sh.nv m o := by
 unfold soper at e
 split at e
 ·rename_i hg
  split at e
  ·rename_i d k e0 n hix
   split at e
   ·rename_i j cs' ch' hs
    cases e
    have hl : Holds ρ cs' := EvOk.asks.1 hev
    have hj := ixSplit_holds hs hl
    have hd := gf.tm.at d
    rw [ixOf_at hix] at hd
    have hd' : SD C.P h H ρ (.int k (.il (Int.ofNat j))) (tmGet f.tm d) := by
     generalize tmGet f.tm d = u at hd
     cases hd
     rw [hj]; exact .int k (.il (Int.ofNat j))
    exact ⟨⟨_, self, ⟨H, cs, rfl, ⟨gf.fn, gf.nt, gf.tm.over d hd', gf.todo, gf.defers, gf.mode, gf.deferred, gf.round⟩, gc, R, B⟩⟩, by rw [ncalls_asks]; rfl⟩
   ·cases e
  ·exact sdo_rel K R B hm gf gc rfl e hev (sguard_known gf.tm hg) pre
 ·rename_i hg
  obtain ⟨f', w1, w2, w3, l, w4⟩ := svalue_rel R B (outer := outer) (S0 := S0) gf gc (.tuple .nil) e hev
  refine ⟨⟨_, pre _ (by simp only [aoper, sguard_known gf.tm hg, w1]), w2⟩, ?_⟩
  rw [w3, w4, ncalls_append, ncalls_asks]; rfl
 ·rename_i d e0 want hg
  split at e
  ·rename_i c ch'
   obtain ⟨g1, g2⟩ := sguard_open gf.tm hg
   have gf' : e0.b ρ = c -> FR C.P h H ρ { fr with tm := fr.tm.set d (.bool (.bl c)) } f := fun hc =>
    ⟨gf.fn, gf.nt, gf.tm.over d (by rw [g2, hc]; exact .bool (.bl c)), gf.todo, gf.defers, gf.mode, gf.deferred, gf.round⟩
   have hcond : (cond c e0 e0.not').b ρ = true -> e0.b ρ = c := by
    intro hq
    cases c
    ·simp only [cond_false, not'_b, Bool.not_eq_true'] at hq; exact hq
    ·exact hq
   cases hcw : (c == want) with
   | true =>
    rw [hcw] at e
    simp only [cond_true] at e
    have hq : (cond c e0 e0.not').b ρ = true := by
     have : ∃ l, o.ev = [Ev.ask (cond c e0 e0.not')] ++ l := by
      unfold sdo at e
      obtain ⟨l, hl⟩ := sdo1_ev e
      exact ⟨_, by rw [hl, List.append_assoc]⟩
     obtain ⟨l, hl⟩ := this
     rw [hl, EvOk.append] at hev
     exact hev.1.1
    have hc := hcond hq
    exact sdo_rel (fr := { fr with tm := fr.tm.set d (.bool (.bl c)) }) K R B hm (gf' hc) gc rfl e hev (by rw [g1, hc, hcw]) pre
   | false =>
    rw [hcw] at e
    simp only [cond_false] at e
    have hq : (cond c e0 e0.not').b ρ = true := by
     obtain ⟨l, hl⟩ := svalue_ev e
     rw [hl, EvOk.append] at hev
     exact hev.1.1
    have hc := hcond hq
    obtain ⟨f', w1, w2, w3, l, w4⟩ := svalue_rel (fr := { fr with tm := fr.tm.set d (.bool (.bl c)) }) R B (outer := outer) (S0 := S0) (gf' hc) gc (.tuple .nil) e hev
    refine ⟨⟨_, pre _ (by simp only [aoper, g1, hc, hcw, w1]), w2⟩, ?_⟩
    rw [w3, w4, ncalls_append, ncalls_asks]; rfl
  ·cases e
 ·cases e
theorem sreturn_rel (R : HR C.P h0 h H ρ sh) (B : Base h0 S0 H) {fr : SFrame} {f : AFrame} {callers : List SFrame} {cs : List AFrame} {v : SV} {u : AV} {ch : List Bool} {o : Out} {m : AMach} (hd : f.deferred = fr.deferred)
  (gc : FRs C.P h H ρ callers cs) (gv : SD C.P h H ρ v u) (e : sreturn C fr callers v sh ch = some o) (hev : EvOk C.P ρ sh.nv o.ev) (pre : ∀ m', areturn C.P f (cs ++ outer) u h = some m' -> Leads C.P m m') : Goes C h0 S0 outer ρ sh.nv m o := by
 unfold sreturn at e
 cases gc with
 | nil => cases e
 | cons g1 g2 =>
  rename_i c y rest ys
  simp only at e
  have gm := g1.mode
  cases hdf : fr.deferred with
  | true =>
   rw [hdf] at e hd
   simp only [cond_true] at e
   split at e
   ·cases e
   ·rename_i hcm
    cases e
    rw [hcm] at gm
    have hym := gm.ret_iff
    refine ⟨⟨⟨y, ys ++ outer, h⟩, pre _ ?_, ⟨H, ys, rfl, g1, g2, R, B⟩⟩, rfl⟩
    simp only [areturn, List.cons_append, hd, cond_true, hym]
  | false =>
   rw [hdf] at e hd
   simp only [cond_false] at e
   split at e
   ·rename_i hcm
    rw [hcm] at gm
    have hym := gm.run_iff
    obtain ⟨f', w1, w2, w3, l, w4⟩ := svalue_rel R B (outer := outer) (S0 := S0) g1 g2 gv e hev
    refine ⟨⟨_, pre _ ?_, w2⟩, ?_⟩
    ·simp only [areturn, List.cons_append, hd, cond_false, hym, w1]
    ·rw [w3, w4, ncalls_append, ncalls_asks]; rfl
   ·cases e
theorem LoopR.with {P : Program} {r : SLoop} {r' : ALoop} (g : LoopR P h H ρ r r') (s : LoopState) (p : Option Code) : LoopR P h H ρ { r with state := s, pending := p } { r' with state := s, pending := p } :=
 ⟨rfl, rfl, g.fn, g.nt, g.tm, g.params, g.assign, g.body, g.defers⟩
theorem LoopR.with1 {P : Program} {r : SLoop} {r' : ALoop} (g : LoopR P h H ρ r r') (s : LoopState) : LoopR P h H ρ { r with state := s } { r' with state := s } :=
 ⟨rfl, g.pending, g.fn, g.nt, g.tm, g.params, g.assign, g.body, g.defers⟩
theorem setObj_rel {P : Program} (R : HR P h0 h H ρ sh) {l a : Nat} {o0 o : SObj} {ob : AObj} (hg : sh.get l = some o0) (ho0 : own o0 = true) (ho1 : own o = true) (hn : H.ν l = some (.obj a)) (ho : ∀ H', HExt h H (h.set a ob) H' -> H'.ν l = some (.obj a) -> ObjR P (h.set a ob) H' ρ l o) (hnt : isTreeO o = false := by rfl) :
  ∃ H', HExt h H (h.set a ob) H' /\ HR P h0 (h.set a ob) H' ρ (sh.set l o) /\ SGrow h0 H H' := by
 obtain ⟨x1, R1⟩ := R.upd (o := o) (ob := ob) (acs := []) (sh' := sh.set l o) hg ho0 ho1 hn rfl rfl rfl (.inl ⟨rfl, rfl⟩) (fun x => ho _ x hn) hnt
 exact ⟨_, x1, R1, fun a ha => .inl ha⟩
theorem sleave_rel (K : ProgOk C.P) (R : HR C.P h0 h H ρ sh) (B : Base h0 S0 H) {fr : SFrame} {f : AFrame} {callers : List SFrame} {cs : List AFrame} {jump : Option Code} {ch : List Bool} {o : Out} {m : AMach}
  (gf : FR C.P h H ρ fr f) (gc : FRs C.P h H ρ callers cs) (e : sleave C fr callers sh jump ch = some o) (hev : EvOk C.P ρ sh.nv o.ev) (pre : ∀ m', aleave C.P f (cs ++ outer) h jump = some m' -> Leads C.P m m') : Goes C h0 S0 outer ρ sh.nv m o := by
 unfold sleave at e
 have gr := gf.round
 generalize hfr : f.roundOf = fro at gr
 split at e
 ·rename_i hro
  rw [hro] at gr
  cases gr
  have done : ∀ {x : Option Out}, x = some { m := { fr := { fr with mode := .returning }, callers, h := sh }, ev := [], ch } -> some o = x -> (∀ m', aleave C.P f (cs ++ outer) h jump = some m' -> Leads C.P m m') -> aleave C.P f (cs ++ outer) h jump = some { fr := { f with mode := .returning }, callers := cs ++ outer, h } -> Goes C h0 S0 outer ρ sh.nv m o := by
   intro x h1 h2 h3 h4
   rw [h1] at h2; cases h2
   exact ⟨⟨_, h3 _ h4, ⟨H, cs, rfl, ⟨gf.fn, gf.nt, gf.tm, gf.todo, gf.defers, trivial, gf.deferred, gf.round⟩, gc, R, B⟩⟩, rfl⟩
  split at e
  ·exact done rfl e.symm pre (by simp only [aleave, hfr])
  ·exact done rfl e.symm pre (by simp only [aleave, hfr])
  ·cases e
 ·rename_i l hro
  rw [hro] at gr
  cases gr with
  | some hn =>
   rename_i a
   split at e
   ·rename_i r hr
    obtain ⟨r', k1, k2, k3, k4⟩ := sgetLoop_rel R hn hr
    cases hdf : fr.deferred with
    | true => rw [hdf] at e; cases e
    | false =>
     rw [hdf] at e
     simp only [cond_false] at e
     obtain ⟨H', x1, R1, s1⟩ := setObj_rel R (o := .loop { r with state := if jump.isNone then .ready else .done, pending := jump }) (ob := .loop { r' with state := if jump.isNone then .ready else .done, pending := jump }) k3 rfl rfl hn
      (fun H' x hn' => .loop hn' (by rw [Heap.get_set]; simp) ((k2.with _ _).mono x))
     have hd : f.deferred = false := by rw [gf.deferred, hdf]
     refine sreturn_rel (f := f) (u := .bool jump.isNone) R1 (B.grow s1) (by rw [hd, hdf]) (gc.mono x1) (.bool (.bl jump.isNone)) e hev fun m' hm' => pre _ ?_
     simp only [aleave, hfr, k1, hd, cond_false]
     exact hm'
   ·cases e
theorem aexitTo_rel {id : Nat} : ∀ {k : List AItem} {ka : List AItem}, ItsR H k ka -> (match aexitTo id k with | some r => ∃ ra, aexitTo id ka = some ra /\ ItsR H r ra | none => aexitTo id ka = none)
 | [], _, .nil => rfl
 | x :: k, _, .cons (y := y) (ys := ys) g1 g2 => by
  have ih := aexitTo_rel (id := id) g2
  cases g1 with
  | same _ hx =>
   cases x with
   | inBlock n =>
    simp only [aexitTo]
    cases hb : Nat.beq n id with
    | true => simp only [cond_true]; exact ⟨_, rfl, g2⟩
    | false => simp only [cond_false]; exact ih
   | _ => simp only [aexitTo]; exact ih
  | inRangeFunc q => simp only [aexitTo]; exact ih
  | endRangeFunc q => simp only [aexitTo]; exact ih
theorem sexec_rel (K : ProgOk C.P) (R : HR C.P h0 h H ρ sh) (B : Base h0 S0 H) {fr : SFrame} {f : AFrame} {callers : List SFrame} {cs : List AFrame} {ch : List Bool} {o : Out} {m : AMach} (hm : fr.mode = .run)
  (gf : FR C.P h H ρ fr f) (gc : FRs C.P h H ρ callers cs)
  (e : sexec C fr callers sh ch = some o) (hev : EvOk C.P ρ sh.nv o.ev) (self : Leads C.P m ⟨f, cs ++ outer, h⟩) (pre : ∀ m', exec C.P C.pl f (cs ++ outer) h = some m' -> Leads C.P m m') : Goes C h0 S0 outer ρ sh.nv m o := by
 have gt := gf.todo
 generalize hft : f.todo = ft at gt
 have to : ∀ {todo todo' : List AItem} {o : Out}, ItsR H todo todo' -> some { m := { fr := { fr with todo }, callers, h := sh }, ev := [], ch } = some o -> exec C.P C.pl f (cs ++ outer) h = some { fr := { f with todo := todo' }, callers := cs ++ outer, h } -> Goes C h0 S0 outer ρ sh.nv m o := by
  intro todo todo' o gi e ha
  cases e
  exact ⟨⟨_, pre _ ha, ⟨H, cs, rfl, ⟨gf.fn, gf.nt, gf.tm, gi, gf.defers, gf.mode, gf.deferred, gf.round⟩, gc, R, B⟩⟩, rfl⟩
 unfold sexec at e
 simp only at e
 split at e
 ·-- nothing left
  rename_i htd
  rw [htd] at gt
  cases gt
  exact sleave_rel K R B gf gc e hev fun m' hm' => pre _ (by simp only [exec, hft]; exact hm')
 ·rename_i c k htd
  rw [htd] at gt
  cases gt with
  | cons g1 g2 =>
  rename_i y ys
  have hy : y = .code c := by cases g1; rfl
  subst hy
  split at e
  ·exact sleave_rel K R B gf gc e hev fun m' hm' => pre _ (by simp only [exec, hft]; exact hm')
  ·exact to g2 e (by simp only [exec, hft])
  ·exact to g2 e (by simp only [exec, hft])
  ·exact to (.cons (.plain rfl) (.cons (.plain rfl) g2)) e (by simp only [exec, hft])
  ·rename_i c thn els
   have gcv := sEval_rel gf.tm c
   split at e
   ·rename_i b hq
    rw [hq] at gcv
    exact to (.cons (.plain rfl) g2) e (by simp only [exec, hft, gcv.toBool]; rfl)
   ·rename_i e0 hne hq
    rw [hq] at gcv
    split at e
    ·rename_i b ch'
     cases e
     obtain ⟨hb, _⟩ := hev
     have hb' : e0.b ρ = b := by
      cases b
      ·simp only [cond_false, not'_b, Bool.not_eq_true'] at hb; exact hb
      ·exact hb
     refine ⟨⟨{ fr := { f with todo := .code (cond b thn els) :: ys }, callers := cs ++ outer, h }, pre _ ?_, ⟨H, cs, rfl, ⟨gf.fn, gf.nt, gf.tm, .cons (.plain rfl) g2, gf.defers, gf.mode, gf.deferred, gf.round⟩, gc, R, B⟩⟩, rfl⟩
     simp only [exec, hft, gcv.toBool, hb']
    ·cases e
   ·cases e
  ·exact to (.cons (.plain rfl) (.cons (.plain rfl) g2)) e (by simp only [exec, hft])
  ·exact to (.cons (.plain rfl) (.cons (.plain rfl) g2)) e (by simp only [exec, hft])
  ·exact to (.cons (.plain rfl) (.cons (.plain rfl) g2)) e (by simp only [exec, hft])
  ·rename_i id
   have ha := aexitTo_rel (id := id) g2
   split at e
   ·rename_i k' hk
    rw [hk] at ha
    obtain ⟨ra, h1, h2⟩ := ha
    exact to h2 e (by simp only [exec, hft, h1])
   ·rename_i hk
    rw [hk] at ha
    simp only at ha
    exact sleave_rel K R B gf gc e hev fun m' hm' => pre _ (by simp only [exec, hft, ha]; exact hm')
  ·exact to (.cons (.plain rfl) g2) e (by simp only [exec, hft])
  ·rename_i id ops
   split at e
   ·rename_i l hl
    split at e
    ·rename_i p hp
     obtain ⟨hok, e⟩ := cond_ok e
     exact to (.cons (.plain rfl) g2) e (by simp only [exec, hft, gf.fn, hl, hp, hok, cond_true])
    ·cases e
   ·cases e
  ·-- a loop over a function
   rename_i fo params assign body
   have gr := gf.round
   generalize hfr : f.roundOf = fro at gr
   have newLoop : ∀ {h : Heap} {H : Hid} {sh : SHeap} {d a : Nat}, HR C.P h0 h H ρ sh -> FR C.P h H ρ fr f -> H.ν d = some (.obj a) ->
     ∃ H', HExt h H (h.new (.loop { state := .ready, pending := none, fn := f.fn, nt := f.nt, tm := f.tm, params, assign, body, defers := a })) H' /\ HR C.P h0 (h.new (.loop { state := .ready, pending := none, fn := f.fn, nt := f.nt, tm := f.tm, params, assign, body, defers := a })) H' ρ (sh.new (.loop { state := .ready, pending := none, fn := fr.fn, nt := fr.nt, tm := fr.tm, params, assign, body, defers := d })) /\ H'.ν sh.next = some (.obj h.next) /\ SGrow h0 H H' := by
    intro h H sh d a R gf hd
    obtain ⟨x1, R1⟩ := R.new (o := .loop { state := .ready, pending := none, fn := fr.fn, nt := fr.nt, tm := fr.tm, params, assign, body, defers := d }) (ob := .loop { state := .ready, pending := none, fn := f.fn, nt := f.nt, tm := f.tm, params, assign, body, defers := a }) (l := .obj h.next) (acs := []) rfl
     (fun x => .loop (a := h.next) (y := { state := .ready, pending := none, fn := f.fn, nt := f.nt, tm := f.tm, params, assign, body, defers := a }) (by simp [Hid.new]) (by rw [Heap.get_new]; simp) ⟨rfl, rfl, gf.fn, gf.nt, gf.tm.mono x, rfl, rfl, rfl, x.nu _ _ hd⟩)
    exact ⟨_, x1, R1, by simp [Hid.new], fun a ha => .inl ha⟩
   split at e
   ·rename_i hro
    rw [hro] at gr
    cases gr
    split at e
    ·rename_i n hn
     obtain ⟨x1, R1⟩ := R.new (o := .deferred (some [])) (ob := .deferred (some [])) (l := .obj h.next) (acs := []) rfl
      (fun x => .deferred (a := h.next) (y := some []) (by simp [Hid.new]) (by rw [Heap.get_new]; simp) .nil)
     have hd : (H.new sh.next (.obj h.next) []).ν sh.next = some (.obj h.next) := by simp [Hid.new]
     obtain ⟨H2, x2, R2, n2, s2⟩ := newLoop R1 (gf.mono x1) hd
     have xx := x1.trans x2
     have gy : ∀ h' : Heap, SDs C.P h' H2 ρ [.yieldf (sh.new (.deferred (some []))).next] [.yieldf (h.new (.deferred (some []))).next] := fun _ => .cons (.yieldf n2) .nil
     obtain ⟨an, a1, a2⟩ := scall_rel (sEval_rel (gf.mono xx).tm fo) (gy _) hn
     refine sapply_rel K R2 ((B.grow (fun a ha => Or.inl ha)).grow s2) (by exact hm) (f := { f with todo := .inRangeFunc (h.new (.deferred (some []))).next :: ys, defers := { tgt := .collected h.next, args := [] } :: f.defers }) ?_ (gc.mono xx) a2 (gy _) sh.nv rfl e hev fun m' hm' => pre _ ?_
     ·have gm := gf.mono xx
      exact ⟨gm.fn, gm.nt, gm.tm, .cons (.inRangeFunc n2) (g2.mono xx), .cons (.collected (x2.nu _ _ hd) .nil) gm.defers, gm.mode, gm.deferred, gm.round⟩
     ·simp only [exec, hft, hfr, a1]
      simp only [hfr] at hm'
      exact hm'
    ·cases e
   ·rename_i outr hro
    rw [hro] at gr
    cases gr with
    | some hq =>
    split at e
    ·rename_i r hr
     obtain ⟨r', k1, k2, k3, k4⟩ := sgetLoop_rel R hq hr
     split at e
     ·rename_i n hn
      obtain ⟨H2, x2, R2, n2, s2⟩ := newLoop R gf k2.defers
      have gy : ∀ h' : Heap, SDs C.P h' H2 ρ [.yieldf sh.next] [.yieldf h.next] := fun _ => .cons (.yieldf n2) .nil
      obtain ⟨an, a1, a2⟩ := scall_rel (sEval_rel (gf.mono x2).tm fo) (gy _) hn
      refine sapply_rel K R2 (B.grow s2) (by exact hm) (f := { f with todo := .inRangeFunc h.next :: ys }) ?_ (gc.mono x2) a2 (gy _) sh.nv rfl e hev fun m' hm' => pre _ ?_
      ·have gm := gf.mono x2
       exact ⟨gm.fn, gm.nt, gm.tm, .cons (.inRangeFunc n2) (g2.mono x2), gm.defers, gm.mode, gm.deferred, gm.round⟩
      ·simp only [exec, hft, hfr, k1, a1]
       simp only [hfr] at hm'
       exact hm'
     ·cases e
    ·cases e
  ·cases e
 ·rename_i id k htd
  rw [htd] at gt
  cases gt with | cons g1 g2 =>
  have hy := g1
  cases hy
  exact to g2 e (by simp only [exec, hft])
 ·rename_i id k htd
  rw [htd] at gt
  cases gt with | cons g1 g2 =>
  cases g1
  exact to g2 e (by simp only [exec, hft])
 ·rename_i body k htd
  rw [htd] at gt
  cases gt with | cons g1 g2 =>
  cases g1
  exact to (.cons (.plain rfl) (.cons (.plain rfl) g2)) e (by simp only [exec, hft])
 ·rename_i ops i k htd
  rw [htd] at gt
  cases gt with | cons g1 g2 =>
  have := g1.reg; subst this
  exact to g2 e (by simp only [exec, hft])
 ·rename_i ops i op rest k htd
  rw [htd] at gt
  cases gt with | cons g1 g2 =>
  have := g1.reg; subst this
  exact soper_rel K R B hm gf gc e hev self fun m' hm' => pre _ (by simp only [exec, hft]; exact hm')
 ·rename_i ops k htd
  rw [htd] at gt
  cases gt with | cons g1 g2 =>
  have := g1.dreg; subst this
  exact to g2 e (by simp only [exec, hft])
 ·rename_i ops i chk rest k htd
  rw [htd] at gt
  cases gt with | cons g1 g2 =>
  have := g1.dreg; subst this
  split at e
  ·rename_i op hop
   exact soper_rel K R B hm gf gc e hev self fun m' hm' => pre _ (by simp only [exec, hft, hop]; exact hm')
  ·cases e
 ·cases e
 ·rename_i k htd
  rw [htd] at gt
  cases gt with | cons g1 g2 =>
  rename_i y0 ys
  cases g1
  have gr := gf.round
  generalize hfr : f.roundOf = fro at gr
  split at e
  ·rename_i l hro
   rw [hro] at gr
   cases gr with
   | some hq =>
   rename_i a
   split at e
   ·rename_i r hr
    obtain ⟨r', k1, k2, k3, k4⟩ := sgetLoop_rel R hq hr
    split at e
    ·rename_i hst
     cases e
     obtain ⟨H', x1, R1, s1⟩ := setObj_rel R (o := .loop { r with state := .busy }) (ob := .loop { r' with state := .busy }) k3 rfl rfl hq
      (fun H' x hn' => .loop hn' (by rw [Heap.get_set]; simp) ((k2.with1 _).mono x))
     have gm := gf.mono x1
     refine ⟨⟨{ fr := { f with todo := ys }, callers := cs ++ outer, h := h.set a (.loop { r' with state := .busy }) }, pre _ ?_, ⟨H', cs, rfl, ⟨gm.fn, gm.nt, gm.tm, g2.mono x1, gm.defers, gm.mode, gm.deferred, gm.round⟩, gc.mono x1, R1, B.grow s1⟩⟩, rfl⟩
     simp only [exec, hft, hfr, k1, k2.state, hst]
    ·cases e
   ·cases e
  ·cases e
 ·rename_i l k htd
  rw [htd] at gt
  cases gt with | cons g1 g2 =>
  rename_i ys
  cases g1 with
  | same _ q => exact absurd rfl (q l).2
  | endRangeFunc hq =>
  rename_i a
  split at e
  ·rename_i r hr
   obtain ⟨r', k1, k2, k3, k4⟩ := sgetLoop_rel R hq hr
   split at e
   ·cases e
   ·rename_i hst
    cases e
    obtain ⟨H', x1, R1, s1⟩ := setObj_rel R (o := .loop { r with state := .exhausted }) (ob := .loop { r' with state := .exhausted }) k3 rfl rfl hq
     (fun H' x hn' => .loop hn' (by rw [Heap.get_set]; simp) ((k2.with1 _).mono x))
    have gm := gf.mono x1
    refine ⟨⟨{ fr := { f with todo := match r'.pending with | some c => .code c :: ys | none => ys }, callers := cs ++ outer, h := h.set a (.loop { r' with state := .exhausted }) }, pre _ ?_, ⟨H', cs, rfl, ⟨gm.fn, gm.nt, gm.tm, ?_, gm.defers, gm.mode, gm.deferred, gm.round⟩, gc.mono x1, R1, B.grow s1⟩⟩, rfl⟩
    ·have : r'.state ≠ .busy := by rw [k2.state]; exact hst
     simp only [exec, hft, k1]
     cases hs : r'.state <;> first | rfl | exact absurd hs this
    ·rw [k2.pending]
     cases r.pending with
     | none => exact g2.mono x1
     | some c => exact .cons (.plain rfl) (g2.mono x1)
  ·cases e
end
end Go.Sym
namespace Go.Sym
open Go Go.Abs
section
variable {C : Cfg} {h : Heap} {H : Hid} {ρ : Env} {h0 : Heap} {S0 : Nat -> Prop} {outer : List AFrame} {sh : SHeap}
theorem DefsR.append {P : Program} {a b : List SDef} {c d : List ADef} (g : DefsR P h H ρ a c) (k : DefsR P h H ρ b d) : DefsR P h H ρ (a ++ b) (c ++ d) := by
 induction g with
 | nil => exact k
 | cons x _ ih => exact .cons x ih
theorem sunwind_rel (K : ProgOk C.P) (R : HR C.P h0 h H ρ sh) (B : Base h0 S0 H) {fr : SFrame} {f : AFrame} {callers : List SFrame} {cs : List AFrame} {ch : List Bool} {o : Out} {m : AMach} (hm : fr.mode = .returning)
  (gf : FR C.P h H ρ fr f) (gc : FRs C.P h H ρ callers cs)
  (e : sunwind C fr callers sh ch = some o) (hev : EvOk C.P ρ sh.nv o.ev) (pre : ∀ m', Abs.unwind C.P f (cs ++ outer) h = some m' -> Leads C.P m m') : Goes C h0 S0 outer ρ sh.nv m o := by
 have gd := gf.defers
 generalize hfd : f.defers = fd at gd
 have hfm : f.mode = .returning := by have := gf.mode; rw [hm] at this; exact this.ret_iff
 unfold sunwind at e
 split at e
 ·rename_i r as_ ds hds
  rw [hds] at gd
  cases gd with
  | cons g1 g2 =>
   cases g1 with
   | collected hr gargs =>
    rename_i us a u
    split at e
    ·rename_i calls hg
     cases e
     have ho := R.objs _ _ hg
     cases ho with
     | deferred e1 e2 e3 =>
      rename_i y a'
      rw [hr] at e1; cases e1
      cases y with
      | none => exact e3.elim
      | some calls' =>
       simp only at e3
       obtain ⟨H', x1, R1, s1⟩ := setObj_rel R (o := .deferred none) (ob := .deferred none) hg rfl rfl hr
        (fun H' x hn' => .deferred (y := none) hn' (by rw [Heap.get_set]; simp) trivial)
       have gm := gf.mono x1
       refine ⟨⟨{ fr := { f with defers := calls' ++ us }, callers := cs ++ outer, h := h.set a (.deferred none) }, pre _ ?_, ⟨H', cs, rfl, ⟨gm.fn, gm.nt, gm.tm, gm.todo, (e3.append g2).mono x1, gm.mode, gm.deferred, gm.round⟩, gc.mono x1, R1, B.grow s1⟩⟩, rfl⟩
       unfold Abs.unwind
       simp only [hfd, e2]
    ·cases e
 ·rename_i fn as_ ds hds
  rw [hds] at gd
  cases gd with
  | cons g1 g2 =>
   cases g1 with
   | func gargs =>
    rename_i us u
    split at e
    ·rename_i g hg
     cases e
     obtain ⟨f', w1, w2⟩ := senter_rel gargs hg
     refine ⟨⟨{ fr := f', callers := { f with defers := us } :: (cs ++ outer), h }, pre _ ?_, ⟨H, { f with defers := us } :: cs, rfl, w2, .cons ⟨gf.fn, gf.nt, gf.tm, gf.todo, g2, gf.mode, gf.deferred, gf.round⟩ gc, R, B⟩⟩, rfl⟩
     unfold Abs.unwind
     simp only [hfd, w1]
    ·cases e
 ·rename_i hds
  rw [hds] at gd
  cases gd
  split at e
  ·rename_i fn hfn
   have hfn' : C.P.funcs[f.fn]? = some fn := by rw [gf.fn]; exact hfn
   have fin : ∀ {vs : List SV} {c : List E} {v : SV} {us : List AV}, Holds ρ c -> aresults C.P h f.tm fn.results.toList = some us -> SD C.P h H ρ v (packed us) -> (sreturn C fr callers v sh ch).map (fun o => { o with ev := asks c ++ o.ev }) = some o -> Goes C h0 S0 outer ρ sh.nv m o := by
    intro vs c v us hc hr gv e
    simp only [Option.map_eq_some_iff] at e
    obtain ⟨o', e1, rfl⟩ := e
    simp only at hev
    rw [EvOk.append, ncalls_asks] at hev
    obtain ⟨p1, p2⟩ := sreturn_rel R B (outer := outer) (S0 := S0) (m := m) gf.deferred gc gv e1 (by simpa using hev.2) fun m' hm' => pre _ (by
     unfold Abs.unwind
     simp only [hfd, hfm, hfn', hr]
     cases us with
     | nil => exact hm'
     | cons a b => cases b <;> exact hm')
    refine ⟨p1, ?_⟩
    simp only [ncalls_append, ncalls_asks]
    omega
   split at e
   ·rename_i v c hr
    have hc : Holds ρ c := by
     simp only [Option.map_eq_some_iff] at e
     obtain ⟨o', e1, rfl⟩ := e
     simp only at hev
     rw [EvOk.append, EvOk.asks] at hev
     exact hev.1
    obtain ⟨us, u1, u2⟩ := sresults_rel R gf.tm hr hc
    cases u2 with
    | cons a b => cases b; exact fin (vs := [v]) hc u1 a e
   ·rename_i vs c hne hr
    have hc : Holds ρ c := by
     simp only [Option.map_eq_some_iff] at e
     obtain ⟨o', e1, rfl⟩ := e
     simp only at hev
     rw [EvOk.append, EvOk.asks] at hev
     exact hev.1
    obtain ⟨us, u1, u2⟩ := sresults_rel R gf.tm hr hc
    refine fin (vs := vs) hc u1 ?_ e
    cases u2 with
    | nil => exact .tuple .nil
    | cons a b =>
     cases b with
     | nil => exact (hne _ rfl).elim
     | cons c d => exact .tuple (.cons a (.cons c d))
   ·cases e
  ·cases e
theorem sstep_rel (K : ProgOk C.P) {s : SMach} {m : AMach} {ch : List Bool} {o : Out} (g : MR C.P h0 S0 outer ρ s m) (e : sstep C s ch = some o) (hev : EvOk C.P ρ s.h.nv o.ev) : Goes C h0 S0 outer ρ s.h.nv m o := by
 obtain ⟨H, cs, h1, h2, h3, h4, h5⟩ := g
 obtain ⟨f, callers, h⟩ := m
 simp only at h1 h2 h3 h4
 subst h1
 unfold sstep at e
 cases hm : s.fr.mode with
 | run =>
  rw [hm] at e
  refine sexec_rel K h4 h5 hm h2 h3 e hev (Leads.refl _) fun m' hm' => leads_step K (pl := C.pl) ?_
  have : f.mode = .run := by have := h2.mode; rw [hm] at this; exact this.run_iff
  unfold astep
  simp only [this]
  exact hm'
 | returning =>
  rw [hm] at e
  refine sunwind_rel K h4 h5 hm h2 h3 e hev fun m' hm' => leads_step K (pl := C.pl) ?_
  have : f.mode = .returning := by have := h2.mode; rw [hm] at this; exact this.ret_iff
  unfold astep
  simp only [this]
  exact hm'
theorem srun_acc : ∀ (n : Nat) (s : SMach) (ch : List Bool) (a : List Ev), srun C n s ch a = (srun C n s ch []).map fun r => (r.1, a ++ r.2.1, r.2.2)
 | 0, s, ch, a => by simp [srun]
 | n + 1, s, ch, a => by
  unfold srun
  cases ho : sstep C s ch with
  | none => rfl
  | some o =>
   simp only [List.nil_append]
   rw [srun_acc n o.m o.ch (a ++ o.ev), srun_acc n o.m o.ch o.ev]
   cases srun C n o.m o.ch [] with
   | none => rfl
   | some r => simp
theorem srun_ev {n : Nat} {s z : SMach} {ch ch' : List Bool} {ev ev' : List Ev} (e : srun C n s ch ev = some (z, ev', ch')) : ∃ l, ev' = ev ++ l /\ srun C n s ch [] = some (z, l, ch') := by
 rw [srun_acc] at e
 simp only [Option.map_eq_some_iff] at e
 obtain ⟨⟨z', l, c'⟩, e1, e2⟩ := e
 cases e2
 exact ⟨l, rfl, e1⟩
theorem srun_rel (K : ProgOk C.P) : ∀ (n : Nat) {s z : SMach} {m : AMach} {ch ch' : List Bool} {ev : List Ev}, MR C.P h0 S0 outer ρ s m -> srun C n s ch [] = some (z, ev, ch') -> EvOk C.P ρ s.h.nv ev -> ∃ m', Leads C.P m m' /\ MR C.P h0 S0 outer ρ z m'
 | 0, s, z, m, ch, ch', ev, g, e, hev => by cases e; exact ⟨m, Leads.refl m, g⟩
 | n + 1, s, z, m, ch, ch', ev, g, e, hev => by
  unfold srun at e
  cases ho : sstep C s ch with
  | none => rw [ho] at e; cases e
  | some o =>
   rw [ho] at e
   simp only [List.nil_append] at e
   obtain ⟨l, h1, h2⟩ := srun_ev e
   rw [h1, EvOk.append] at hev
   obtain ⟨⟨m1, k1, k2⟩, k3⟩ := sstep_rel K g ho hev.1
   obtain ⟨m2, k4, k5⟩ := srun_rel K n k2 h2 (by rw [k3]; exact hev.2)
   exact ⟨m2, k1.trans k4, k5⟩
end
end Go.Sym
namespace Go.Sym
open Go Go.Abs
theorem get_node0 {α : Type} (x : Option α) (a b c d : Tr α) : (Tr.node x a b c d).get 0 = x := rfl
theorem get_nodeS {α : Type} (x : Option α) (a b c d : Tr α) (k : Nat) : (Tr.node x a b c d).get (k + 1) = match d4 (k % 4) with | .a => a.get (k / 4) | .b => b.get (k / 4) | .c => c.get (k / 4) | .d => d.get (k / 4) := by
 unfold Tr.get
 rw [show Nat.succ (k + 1) = (k + 1) + 1 from rfl, wayTo_succ]
 rw [wayTo_more α (k + 1) (k / 4) (Nat.succ (k / 4)) (by omega) (by omega)]
 cases d4 (k % 4) <;> rfl
theorem allK_get {α : Type} : ∀ {f : Nat -> α -> Bool} {t : Tr α}, allK f t = true -> ∀ n v, t.get n = some v -> f n v = true := by
 intro f t
 induction t generalizing f with
 | nil => intro _ n v e; rw [Tr.get_nil] at e; cases e
 | node x a b c d iha ihb ihc ihd =>
  intro h n v e
  simp only [allK, Bool.and_eq_true] at h
  obtain ⟨⟨⟨⟨h0, ha⟩, hb⟩, hc⟩, hd⟩ := h
  cases n with
  | zero => rw [get_node0] at e; subst e; exact h0
  | succ k =>
   rw [get_nodeS] at e
   have hm : k % 4 = 0 \/ k % 4 = 1 \/ k % 4 = 2 \/ k % 4 = 3 := by omega
   have hk : k = 4 * (k / 4) + k % 4 := by omega
   rcases hm with q | q | q | q <;> rw [q] at e hk
   ·have := iha ha (k / 4) v e; rw [show k + 1 = 4 * (k / 4) + 1 from by omega]; exact this
   ·have := ihb hb (k / 4) v e; rw [show k + 1 = 4 * (k / 4) + 2 from by omega]; exact this
   ·have := ihc hc (k / 4) v e; rw [show k + 1 = 4 * (k / 4) + 3 from by omega]; exact this
   ·have := ihd hd (k / 4) v e; rw [show k + 1 = 4 * (k / 4) + 4 from by omega]; exact this
section
variable {P : Program} {h : Heap} {H H' : Hid} {ρ ρ' : Env} {h0 : Heap} {sh : SHeap} {σ : Sub} {β : Blks}
theorem insts_i {a b : E} (hρ : (σ.ev ρ).le ρ') (e : insts .i σ a b = true) : a.i ρ' = b.i ρ := by
 unfold insts at e
 simp only [Bool.and_eq_true, decide_eq_true_eq] at e
 rw [(inst_ev hρ a).1 e.1, e.2]
theorem insts_b {a b : E} (hρ : (σ.ev ρ).le ρ') (e : insts .b σ a b = true) : a.b ρ' = b.b ρ := by
 unfold insts at e
 simp only [Bool.and_eq_true, decide_eq_true_eq] at e
 rw [(inst_ev hρ a).2.1 e.1, e.2]
theorem insts_v {a b : E} (hρ : (σ.ev ρ).le ρ') (e : insts .v σ a b = true) : a.v ρ' = b.v ρ := by
 unfold insts at e
 simp only [Bool.and_eq_true, decide_eq_true_eq] at e
 rw [(inst_ev hρ a).2.2 e.1, e.2]
structure Names (h : Heap) (H H' : Hid) (ρ : Env) (σ : Sub) (β : Blks) : Prop where
 nu : ∀ a c, findA a β = some (some c) -> H'.ν a = H.ν c
 nu0 : ∀ a, findA a β = some none -> H'.ν a = some .nil
 ka : ∀ (n : Nat) p av, σ.p[n]? = some p -> avOf h H ρ p = some av -> H'.κ n = [av]
 S : H'.S = H.S
theorem fits_rel (R : HR P h0 h H ρ sh) (N : Names h H H' ρ σ β) (hρ : (σ.ev ρ).le ρ') : ∀ {f : Nat} {x y : SV} {u : AV}, fits P sh σ β f x y = true -> SD P h H ρ y u -> SD P h H' ρ' x u := by
 intro f
 induction f with
 | zero => intro x y u e; exact (Bool.false_ne_true e).elim
 | succ f ih =>
  intro x y u e g
  have lists : ∀ {xs ys : List SV} {us : List AV}, all2 (fits P sh σ β f) xs ys = true -> SDs P h H ρ ys us -> SDs P h H' ρ' xs us := by
   intro xs
   induction xs with
   | nil => intro ys us e g; cases ys <;> simp [all2] at e; cases g; exact .nil
   | cons x xs ihx =>
    intro ys us e g
    cases ys with
    | nil => simp [all2] at e
    | cons y ys =>
     simp only [all2, Bool.and_eq_true] at e
     cases g with | cons g1 g2 => exact .cons (ih e.1 g1) (ihx e.2 g2)
  unfold fits at e
  split at e
  ·cases g; rw [<- insts_b hρ e]; exact .bool _
  ·simp only [Bool.and_eq_true, decide_eq_true_eq] at e
   obtain ⟨rfl, e⟩ := e
   cases g; rw [<- insts_i hρ e]; exact .int _ _
  ·cases g with | str q => exact .str (by rw [insts_v hρ e]; exact q)
  ·cases g; exact .nilp
  ·simp only [Bool.and_eq_true, decide_eq_true_eq] at e
   have := beq_tt e.2; subst this
   cases g with | addr q => exact .addr (by rw [N.nu _ _ e.1]; exact q)
  ·simp only [Bool.and_eq_true, decide_eq_true_eq] at e
   have := beq_tt e.2; subst this
   cases g with | addrE q => rw [<- insts_i hρ e.1.2]; exact .addrE (by rw [N.nu _ _ e.1.1]; exact q)
  ·cases g; exact .nils
  ·simp only [decide_eq_true_eq] at e
   cases g with
   | view0 q => exact .view0 (by rw [N.nu _ _ e]; exact q)
   | view q => exact .view (by rw [N.nu _ _ e]; exact q)
  ·simp only [decide_eq_true_eq] at e
   cases g; exact .view0 (N.nu0 _ e)
  ·rename_i y t e0 n
   split at e
   ·simp only [Bool.and_eq_true, decide_eq_true_eq] at e
    obtain ⟨⟨e1, e2⟩, e3⟩ := e
    cases g
    split at e3
    ·rename_i sz hz
     refine .pure (by simp [avOf, N.ka n .nil .nils e2 rfl]) hz (by omega) (.inl ⟨?_, rfl⟩)
     rw [insts_v hρ e1]; rfl
    ·cases e3
   ·split at e
    ·rename_i t' e' p' hp
     simp only [Bool.and_eq_true, decide_eq_true_eq] at e
     obtain ⟨⟨e1, e2⟩, e3⟩ := e
     have := beq_tt e1; subst this
     have g' := pureOf_rel R g hp
     cases g' with
     | pure q1 q2 q3 q4 =>
      refine .pure (by simp [avOf, N.ka n p' u e3 q1]) q2 q3 ?_
      rw [N.S, insts_v hρ e2]; exact q4
    ·cases e
  ·cases g; exact .nilm
  ·cases g; exact .nilf
  ·simp only [Bool.and_eq_true] at e
   have := beq_tt e.1.1; subst this
   cases g with | func g1 g2 => exact .func (lists e.1.2 g1) (lists e.2 g2)
  ·simp only [decide_eq_true_eq] at e
   cases g with | yieldf q => exact .yieldf (by rw [N.nu _ _ e]; exact q)
  ·cases g; exact .nili
  ·simp only [Bool.and_eq_true] at e
   have := beq_tt e.1; subst this
   cases g with | iface g => exact .iface (ih e.2 g)
  ·cases g with | agg g => exact .agg (lists e g)
  ·cases g with | tuple g => exact .tuple (lists e g)
  ·cases e
theorem fitsTm_rel (R : HR P h0 h H ρ sh) (N : Names h H H' ρ σ β) (hρ : (σ.ev ρ).le ρ') {x y : Tr SV} {u : Tr AV} (e : fitsTm P sh σ β x y = true) (g : TmR P h H ρ y u) : TmR P h H' ρ' x u :=
 fun t v hv => fits_rel R N hρ (allK_get e t v hv) (g.at t)
theorem fitsL_rel (R : HR P h0 h H ρ sh) (N : Names h H H' ρ σ β) (hρ : (σ.ev ρ).le ρ') : ∀ {xs ys : List SV} {us : List AV}, all2 (fits P sh σ β 20) xs ys = true -> SDs P h H ρ ys us -> SDs P h H' ρ' xs us
 | [], [], _, e, .nil => .nil
 | x :: xs, y :: ys, _, e, .cons g1 g2 => by
  simp only [all2, Bool.and_eq_true] at e
  exact .cons (fits_rel R N hρ e.1 g1) (fitsL_rel R N hρ e.2 g2)
 | [], _ :: _, _, e, _ => by simp [all2] at e
 | _ :: _, [], _, e, _ => by simp [all2] at e
theorem fitsDefs_rel (R : HR P h0 h H ρ sh) (N : Names h H H' ρ σ β) (hρ : (σ.ev ρ).le ρ') : ∀ {xs ys : List SDef} {us : List ADef}, all2 (fitsDef P sh σ β) xs ys = true -> DefsR P h H ρ ys us -> DefsR P h H' ρ' xs us
 | [], [], _, e, .nil => .nil
 | x :: xs, y :: ys, _, e, .cons g1 g2 => by
  simp only [all2, Bool.and_eq_true] at e
  refine .cons ?_ (fitsDefs_rel R N hρ e.2 g2)
  obtain ⟨tx, ax⟩ := x
  obtain ⟨ty, ay⟩ := y
  obtain ⟨e1, _⟩ := e
  simp only [fitsDef, Bool.and_eq_true] at e1
  obtain ⟨h1, h2⟩ := e1
  cases g1 with
  | func g =>
   cases tx with
   | func a => simp only at h1; have := beq_tt h1; subst this; exact .func (fitsL_rel R N hρ h2 g)
   | collected a => simp at h1
  | collected q g =>
   cases tx with
   | func a => simp at h1
   | collected a =>
    simp only [decide_eq_true_eq] at h1
    exact .collected (by rw [N.nu _ _ h1]; exact q) (fitsL_rel R N hρ h2 g)
 | [], _ :: _, _, e, _ => by simp [all2] at e
 | _ :: _, [], _, e, _ => by simp [all2] at e
theorem todo_rel (N : Names h H H' ρ σ β) : ∀ {xs ys : List AItem}, todoOk β xs = true -> ItsR H xs ys -> ItsR H' xs ys
 | [], _, _, .nil => .nil
 | x :: xs, _, e, .cons g1 g2 => by
  simp only [todoOk, List.all_cons, Bool.and_eq_true] at e
  refine .cons ?_ (todo_rel N e.2 g2)
  cases g1 with
  | same _ q => exact .same _ q
  | inRangeFunc q =>
   have e1 := e.1
   simp only [sameId, decide_eq_true_eq] at e1
   exact .inRangeFunc (by rw [N.nu _ _ e1]; exact q)
  | endRangeFunc q =>
   have e1 := e.1
   simp only [sameId, decide_eq_true_eq] at e1
   exact .endRangeFunc (by rw [N.nu _ _ e1]; exact q)
theorem adoptF_rel (R : HR P h0 h H ρ sh) (N : Names h H H' ρ σ β) (hρ : (σ.ev ρ).le ρ') {x y z : SFrame} {u : AFrame} (e : adoptF P sh σ β x y = some z) (g : FR P h H ρ y u) : FR P h H' ρ' z u := by
 unfold adoptF at e
 obtain ⟨hc, e⟩ := cond_ok e
 cases e
 simp only [Bool.and_eq_true] at hc
 obtain ⟨⟨⟨c1, c2⟩, c3⟩, c4⟩ := hc
 refine ⟨g.fn, g.nt, fitsTm_rel R N hρ c1 g.tm, todo_rel N c3 g.todo, fitsDefs_rel R N hρ c2 g.defers, g.mode, g.deferred, ?_⟩
 have gr := g.round
 simp only
 generalize y.roundOf = yr at c4 gr
 generalize u.roundOf = ur at gr
 cases gr with
 | none => exact .none
 | some q =>
  simp only [sameId, decide_eq_true_eq] at c4
  exact .some (by rw [N.nu _ _ c4]; exact q)
theorem adoptFs_rel (R : HR P h0 h H ρ sh) (N : Names h H H' ρ σ β) (hρ : (σ.ev ρ).le ρ') : ∀ {xs ys zs : List SFrame} {us : List AFrame}, adoptFs P sh σ β xs ys = some zs -> FRs P h H ρ ys us -> FRs P h H' ρ' zs us
 | [], [], _, _, e, .nil => by cases e; exact .nil
 | x :: xs, y :: ys, _, _, e, .cons g1 g2 => by
  unfold adoptFs at e
  split at e
  ·rename_i z zs h1 h2
   cases e
   exact .cons (adoptF_rel R N hρ h1 g1) (adoptFs_rel R N hρ h2 g2)
  ·cases e
 | [], _ :: _, _, _, e, _ => by cases e
 | _ :: _, [], _, _, e, _ => by cases e
noncomputable def hidOf (h : Heap) (H : Hid) (ρ : Env) (σ : Sub) (β : Blks) (x : SHeap) : Hid where
 ν a := match findA a β with
  | some (some c) => H.ν c
  | some none => some .nil
  | none => none
 κ n := match σ.p[n]? with
  | some p => match avOf h H ρ p with
   | some av => [av]
   | none => []
  | none => []
 κb b v := match x.get b with
  | some (.arr _ _ ver) => if v = ver /\ ver < x.next then (match (match findA b β with | some (some c) => H.ν c | _ => none) with
   | some l => match l.at with
    | some a => match h.get a with
     | some (.cells cs) => cs
     | _ => []
    | none => []
   | none => []) else []
  | _ => []
 S := H.S
 fp b := match findA b β with
  | some (some c) => H.fp c
  | _ => []
theorem findA_mem {α : Type} : ∀ {l : List (Nat × α)} {n : Nat} {x : α}, findA n l = some x -> (n, x) ∈ l
 | [], _, _, e => by cases e
 | (m, y) :: l, n, x, e => by
  unfold findA at e
  cases hb : Nat.beq m n with
  | true => rw [hb] at e; cases e; have := beq_tt hb; subst this; simp
  | false => rw [hb] at e; exact List.mem_cons_of_mem _ (findA_mem e)
theorem names_of {x : SHeap} : Names h H (hidOf h H ρ σ β x) ρ σ β := by
 refine ⟨fun a c e => by simp [hidOf, e], fun a e => by simp [hidOf, e], fun n p av e1 e2 => by simp [hidOf, e1, e2], rfl⟩
theorem adoptLoops_get {x y : SHeap} : ∀ (β : Blks) (t : Tr SObj) (b : Nat) (o : SObj), (adoptLoops x y β t).get b = some o -> (t.get b = some o /\ ∀ c p q, (b, some c) ∈ β -> x.get b = some (.loop p) -> y.get c = some (.loop q) -> False) \/ ∃ c p q, (b, some c) ∈ β /\ x.get b = some (.loop p) /\ y.get c = some (.loop q) /\ o = .loop { q with tm := p.tm, defers := p.defers }
 | [], t, b, o, e => .inl ⟨e, fun c p q h => by simp at h⟩
 | (a, none) :: β, t, b, o, e => by
  rcases adoptLoops_get β t b o e with ⟨h, k⟩ | ⟨c, p, q, h1, h2⟩
  ·refine .inl ⟨h, fun c p q hm => ?_⟩
   simp only [List.mem_cons, Prod.mk.injEq, reduceCtorEq, and_false, false_or] at hm
   exact k c p q hm
  ·exact .inr ⟨c, p, q, List.mem_cons_of_mem _ h1, h2⟩
 | (a, some c) :: β, t, b, o, e => by
  unfold adoptLoops at e
  split at e
  ·rename_i p q hp hq
   rw [Tr.get_set] at e
   split at e
   ·rename_i hb
    cases e
    subst hb
    exact .inr ⟨c, p, q, by simp, hp, hq, rfl⟩
   ·rename_i hb
    rcases adoptLoops_get β t b o e with ⟨h, k⟩ | ⟨c', p, q, h1, h2⟩
    ·refine .inl ⟨h, fun c' p q hm => ?_⟩
     simp only [List.mem_cons, Prod.mk.injEq] at hm
     rcases hm with ⟨hm, _⟩ | hm
     ·exact absurd hm hb
     ·exact k c' p q hm
    ·exact .inr ⟨c', p, q, List.mem_cons_of_mem _ h1, h2⟩
  ·rename_i hne
   rcases adoptLoops_get β t b o e with ⟨h, k⟩ | ⟨c', p, q, h1, h2⟩
   ·refine .inl ⟨h, fun c' p q hm hp hq => ?_⟩
    simp only [List.mem_cons, Prod.mk.injEq] at hm
    rcases hm with ⟨rfl, hm⟩ | hm
    ·cases hm; exact hne _ _ hp hq
    ·exact k c' p q hm hp hq
   ·exact .inr ⟨c', p, q, List.mem_cons_of_mem _ h1, h2⟩
theorem distinct_inj {β : Blks} (h : distinctL (β.filterMap (·.2)) = true) : ∀ {a b c : Nat}, (a, some c) ∈ β -> (b, some c) ∈ β -> a = b := by
 induction β with
 | nil => intro a b c h1; simp at h1
 | cons x β ih =>
  intro a b c h1 h2
  obtain ⟨xa, xc⟩ := x
  cases xc with
  | none =>
   simp only [List.filterMap_cons] at h
   simp only [List.mem_cons, Prod.mk.injEq, reduceCtorEq, and_false, false_or] at h1 h2
   exact ih h h1 h2
  | some d =>
   simp only [List.filterMap_cons, distinctL, Bool.and_eq_true, Bool.not_eq_true'] at h
   have hno : ∀ e, (e, some d) ∉ β := by
    intro e he
    have : d ∈ β.filterMap (·.2) := List.mem_filterMap.2 ⟨(e, some d), he, rfl⟩
    have hc := h.1
    simp at hc
    exact hc _ he
   simp only [List.mem_cons, Prod.mk.injEq] at h1 h2
   rcases h1 with ⟨rfl, h1⟩ | h1
   ·cases h1
    rcases h2 with ⟨rfl, _⟩ | h2
    ·rfl
    ·exact absurd h2 (hno _)
   ·rcases h2 with ⟨rfl, h2⟩ | h2
    ·cases h2; exact absurd h1 (hno _)
    ·exact ih h.2 h1 h2
theorem findA_of_mem {β : Blks} (h : distinctL (β.map (·.1)) = true) : ∀ {a : Nat} {c : Option Nat}, (a, c) ∈ β -> findA a β = some c := by
 induction β with
 | nil => intro a c h1; simp at h1
 | cons x β ih =>
  intro a c h1
  obtain ⟨xa, xc⟩ := x
  simp only [List.map_cons, distinctL, Bool.and_eq_true, Bool.not_eq_true'] at h
  unfold findA
  simp only [List.mem_cons, Prod.mk.injEq] at h1
  rcases h1 with ⟨rfl, rfl⟩ | h1
  ·simp
  ·have hne : xa ≠ a := by
    intro q; subst q
    have hc := h.1
    simp at hc
    exact hc _ h1
   have : Nat.beq xa a = false := by cases hb : Nat.beq xa a with | true => exact absurd (beq_tt hb) hne | false => rfl
   rw [this]
   exact ih h.2 h1
theorem fitsObj_some {o : SObj} {c : Nat} (k : fitsObj P sh σ β o (some c) = true) : ∃ oc, sh.get c = some oc /\ own oc = true := by
 cases o with
 | cells xs =>
  simp only [fitsObj] at k
  split at k
  ·rename_i hg; exact ⟨_, hg, rfl⟩
  ·cases k
 | arr t e v =>
  simp only [fitsObj] at k
  split at k
  ·rename_i hg; exact ⟨_, hg, rfl⟩
  ·cases k
 | froz t e n => simp [fitsObj] at k
 | tree2 => simp [fitsObj] at k
 | tree t e hole =>
  cases hole with
  | some _ => simp [fitsObj] at k
  | none =>
   simp only [fitsObj] at k
   split at k
   ·rename_i hg; exact ⟨_, hg, rfl⟩
   ·cases k
 | arrH t et e i d =>
  simp only [fitsObj] at k
  split at k
  ·rename_i hg; exact ⟨_, hg, rfl⟩
  ·cases k
 | loop x =>
  simp only [fitsObj] at k
  split at k
  ·rename_i hg; exact ⟨_, hg, rfl⟩
  ·cases k
 | deferred ds =>
  cases ds with
  | none =>
   simp only [fitsObj] at k
   split at k
   ·rename_i hg; exact ⟨_, hg, rfl⟩
   ·cases k
  | some ds =>
   simp only [fitsObj] at k
   split at k
   ·rename_i hg; exact ⟨_, hg, rfl⟩
   ·cases k
theorem adopt_rel {S0 : Nat -> Prop} {outer : List AFrame} {x y z : SMach} {m : AMach} {φ : List Nat} (e : adopt P x φ σ β y = some z) (hρ : (σ.ev ρ).le ρ') (g : MR P h0 S0 outer ρ y m) : MR P h0 S0 outer ρ' z m := by
 obtain ⟨H0, cs, h1, h2, h3, h4, h5⟩ := g
 obtain ⟨f, callers, h⟩ := m
 simp only at h1 h2 h3 h4
 unfold adopt at e
 simp only at e
 obtain ⟨H00, x00, R00, s00⟩ := settleAll_rel (P := P) h4
 obtain ⟨H, x1, R, s1⟩ := freezes_rel (P := P) (φ.map .view) R00
 have x1 := x00.trans x1
 have s1 := s00.trans s1
 generalize freezes (settleAll P y.h) (φ.map .view) = sh at e R
 split at e
 ·rename_i fr callers' hf hc
  obtain ⟨hH, e⟩ := cond_ok e
  cases e
  unfold adoptH at hH
  simp only [Bool.and_eq_true] at hH
  obtain ⟨⟨⟨⟨⟨k1, k2⟩, k2'⟩, k3⟩, k4⟩, k5⟩ := hH
  have hats := beq_tt k4
  have N : Names h H (hidOf h H ρ σ β x.h) ρ σ β := names_of
  -- the objects
  have objs : ∀ b o, (adoptLoops x.h sh β x.h.t).get b = some o -> (∃ c, findA b β = some (some c) /\ (own o = true -> ∃ oc, sh.get c = some oc /\ own oc = true)) \/ (findA b β = some none /\ ∀ l a, (hidOf h H ρ σ β x.h).ν b = some l -> l.at = some a -> False) := by
   intro b o ho
   have main : ∀ o, x.h.t.get b = some o -> (∃ c, findA b β = some (some c) /\ (∃ oc, sh.get c = some oc /\ own oc = true)) \/ (findA b β = some none) := by
    intro o ho
    have k := allK_get k1 b o ho
    simp only [Bool.and_eq_true] at k
    obtain ⟨_, k⟩ := k
    split at k
    ·rename_i c hcb
     cases c with
     | none => exact .inr hcb
     | some c =>
      exact .inl ⟨c, hcb, fitsObj_some k⟩
    ·cases k
   have fin : ∀ o', x.h.t.get b = some o' -> _ := fun o' ho' => (main o' ho').imp (fun ⟨c, c1, c2⟩ => (⟨c, c1, fun _ => c2⟩ : ∃ c, findA b β = some (some c) /\ (own o = true -> ∃ oc, sh.get c = some oc /\ own oc = true))) (fun q => (⟨q, fun l a n1 l1 => by simp [hidOf, q] at n1; subst n1; cases l1⟩ : findA b β = some none /\ ∀ l a, (hidOf h H ρ σ β x.h).ν b = some l -> l.at = some a -> False))
   rcases adoptLoops_get β x.h.t b o ho with ⟨ho, _⟩ | ⟨c, p, q, _, hp, _, _⟩
   ·exact fin o ho
   ·exact fin _ hp
  refine ⟨hidOf h H ρ σ β x.h, cs, h1, adoptF_rel R N hρ hf (h2.mono x1), adoptFs_rel R N hρ hc (h3.mono x1), ⟨?_, ?_, ?_, R.S_lt, R.next, R.keep, ?_, ?_, ?_, ?_, R.none_, ?_, ?_⟩, fun a ha => (s1 a ha).elim (h5 a) .inr⟩
  ·intro b o ho
   rcases adoptLoops_get β x.h.t b o ho with ⟨ho, hnl⟩ | ⟨c, p, q, hm, hp, hq, rfl⟩
   ·have k := allK_get k1 b o ho
    simp only [Bool.and_eq_true] at k
    obtain ⟨kv, k⟩ := k
    split at k
    ·rename_i cc hcb
     cases o with
     | arr t e0 ver =>
      cases cc with
      | none =>
       simp only [fitsObj, Bool.and_eq_true] at k
       obtain ⟨ka, kb⟩ := k
       split at kb
       ·rename_i sz hz
        exact .arr0 (by rw [insts_v hρ ka]; rfl) (N.nu0 _ hcb) hz (by omega)
       ·cases kb
      | some c =>
       simp only [fitsObj] at k
       split at k
       ·rename_i t' e' v' hg
        simp only [Bool.and_eq_true] at k
        have := beq_tt k.1; subst this
        have hv := insts_v hρ k.2
        have hnu := N.nu _ _ hcb
        have hoc := R.objs _ _ hg
        cases hoc with
        | arr0 q1 q2 q3 q4 => exact .arr0 (by rw [hv]; exact q1) (by rw [hnu]; exact q2) q3 q4
        | arr q1 q2 q3 q4 =>
         rename_i a len sz l acs
         refine .arr (by rw [hv]; exact q1) (by rw [hnu]; exact q2) ⟨q3.size, q3.pos, q3.len, q3.get, q3.row⟩ ?_
         have hvlt : ver < x.h.next := by simpa [verOk, Nat.blt_eq] using kv
         have ho' : x.h.get b = some (.arr t e0 ver) := ho
         simp only [hidOf, ho', hvlt, and_self, if_true, hcb, q2, Loc.at, q3.get]
       ·cases k
     | cells xs =>
      cases cc with
      | none => simp [fitsObj] at k
      | some c =>
       simp only [fitsObj] at k
       split at k
       ·rename_i ys hg
        have hoc := R.objs _ _ hg
        cases hoc with
        | cells q1 q2 q3 => exact .cells (by rw [N.nu _ _ hcb]; exact q1) q2 (fitsL_rel R N hρ k q3)
       ·cases k
     | arrH t et e0 i0 d =>
      cases cc with
      | none => simp [fitsObj] at k
      | some c =>
       simp only [fitsObj] at k
       split at k
       ·rename_i t' et' e' i' d' hg
        simp only [Bool.and_eq_true, decide_eq_true_eq] at k
        obtain ⟨⟨⟨⟨y1, y2⟩, y3⟩, y4⟩, y5⟩ := k
        have := beq_tt y1; subst this
        have := beq_tt y2; subst this
        have hv := insts_v hρ y3
        have hi := insts_i hρ y4
        have hnu := N.nu _ _ hcb
        have hnd := N.nu _ _ y5
        have hoc := R.objs _ _ hg
        cases hoc with
        | arrH q1 q2 q3 q4 q5 q6 q7 q8 q9 q10 =>
         obtain ⟨av, g1, g2⟩ := q9
         refine .arrH (by rw [hv]; exact q1) (by rw [hnu]; exact q2) q3 q4 q5 q6 (by rw [hi]; exact q7) q8 ⟨av, g1, ?_⟩ q10
         rcases g2 with ⟨a, b⟩ | ⟨a, len, sz, b, c⟩
         ·exact .inl ⟨by rw [hnd]; exact a, b⟩
         ·exact .inr ⟨a, len, sz, by rw [hnd]; exact b, c⟩
       ·cases k
     | froz t e0 n => cases cc <;> simp [fitsObj] at k
     | tree2 => cases cc <;> simp [fitsObj] at k
     | tree t e0 hole =>
      cases hole with
      | some _ => cases cc <;> simp [fitsObj] at k
      | none =>
       cases cc with
       | none =>
        simp only [fitsObj, Bool.and_eq_true] at k
        obtain ⟨ka, kb⟩ := k
        split at kb
        ·rename_i sz hz
         exact .tree0 (by rw [insts_v hρ ka]; rfl) (N.nu0 _ hcb) hz (by omega) (by simp [hidOf, hcb])
        ·cases kb
       | some c =>
        simp only [fitsObj] at k
        split at k
        ·rename_i t' e' hg
         simp only [Bool.and_eq_true] at k
         have := beq_tt k.1; subst this
         have hv := insts_v hρ k.2
         have hnu := N.nu _ _ hcb
         have hfp : (hidOf h H ρ σ β x.h).fp b = H.fp c := by simp [hidOf, hcb]
         have hoc := R.objs _ _ hg
         cases hoc with
         | tree0 q1 q2 q3 q4 q5 => exact .tree0 (by rw [hv]; exact q1) (by rw [hnu]; exact q2) q3 q4 (by rw [hfp, q5])
         | tree q1 q2 q3 q4 => exact .tree (by rw [hv]; exact q1) (by rw [hnu]; exact q2) q3 (by rw [hfp]; exact q4)
        ·cases k
     | deferred ds =>
      cases cc with
      | none => cases ds <;> simp [fitsObj] at k
      | some c =>
       cases ds with
       | none =>
        simp only [fitsObj] at k
        split at k
        ·rename_i hg
         have hoc := R.objs _ _ hg
         cases hoc with
         | deferred q1 q2 q3 =>
          rename_i yy a
          cases yy with
          | none => exact .deferred (y := none) (by rw [N.nu _ _ hcb]; exact q1) q2 trivial
          | some _ => exact q3.elim
        ·cases k
       | some ds =>
        simp only [fitsObj] at k
        split at k
        ·rename_i es hg
         have hoc := R.objs _ _ hg
         cases hoc with
         | deferred q1 q2 q3 =>
          rename_i yy a
          cases yy with
          | none => exact q3.elim
          | some us => exact .deferred (y := some us) (by rw [N.nu _ _ hcb]; exact q1) q2 (fitsDefs_rel R N hρ k q3)
        ·cases k
     | loop xl =>
      exfalso
      cases cc with
      | none => simp [fitsObj] at k
      | some c =>
       simp only [fitsObj] at k
       split at k
       ·rename_i yl hg
        exact hnl c xl yl (findA_mem hcb) ho hg
       ·cases k
    ·cases k
   ·-- a loop
    have k := allK_get k1 b _ hp
    simp only [Bool.and_eq_true] at k
    obtain ⟨_, k⟩ := k
    rw [findA_of_mem k2' hm] at k
    simp only [fitsObj, hq, Bool.and_eq_true, decide_eq_true_eq] at k
    have hoc := R.objs _ _ hq
    cases hoc with
    | loop q1 q2 q3 =>
     exact .loop (by rw [N.nu _ _ (findA_of_mem k2' hm)]; exact q1) q2 ⟨q3.state, q3.pending, q3.fn, q3.nt, fitsTm_rel R N hρ k.1 q3.tm, q3.params, q3.assign, q3.body, by rw [N.nu _ _ k.2]; exact q3.defers⟩
  ·intro b b' o o' l l' a e1 e2 w1 w2 n1 n2 a1 a2
   rcases objs b o e1 with ⟨c, c1, c2⟩ | ⟨_, c2⟩
   ·rcases objs b' o' e2 with ⟨c', c1', c2'⟩ | ⟨_, c2'⟩
    ·obtain ⟨oc, p1, p2⟩ := c2 w1
     obtain ⟨oc', p1', p2'⟩ := c2' w2
     rw [N.nu _ _ c1] at n1
     rw [N.nu _ _ c1'] at n2
     have := R.inj _ _ _ _ _ _ _ p1 p1' p2 p2' n1 n2 a1 a2
     subst this
     exact distinct_inj k2 (findA_mem c1) (findA_mem c1')
    ·exact (c2' _ _ n2 a2).elim
   ·exact (c2 _ _ n1 a1).elim
  ·intro b o l a e1 w1 n1 a1
   rcases objs b o e1 with ⟨c, c1, c2⟩ | ⟨_, c2⟩
   ·obtain ⟨oc, p1, p2⟩ := c2 w1
    rw [N.nu _ _ c1] at n1
    exact R.ownS _ _ _ _ p1 p2 n1 a1
   ·exact (c2 _ _ n1 a1).elim
  ·intro b hb
   have : findA b β = none := by
    cases hq : findA b β with
    | none => rfl
    | some c =>
     have hm := findA_mem hq
     have := List.all_eq_true.1 k3 _ hm
     simp only [Nat.blt_eq] at this
     have hb : x.h.next <= b := hb
     omega
   simp [hidOf, this]
  ·intro b l a n1 a1
   simp only [hidOf] at n1
   split at n1
   ·exact R.nu_lt _ _ _ n1 a1
   ·cases n1; cases a1
   ·cases n1
  ·intro n hn
   have hn : x.h.ats <= n := hn
   have : σ.p[n]? = none := List.getElem?_eq_none (by omega)
   simp [hidOf, this]
  ·intro b v hv
   have hv : x.h.next <= v := hv
   simp only [hidOf]
   split
   ·rw [if_neg (by omega)]
   ·rfl
  ·intro b o ho
   show b < x.h.next
   rcases objs b o ho with ⟨c, c1, _⟩ | ⟨c1, _⟩
   all_goals
    have hm := findA_mem c1
    have := List.all_eq_true.1 k3 _ hm
    simpa [Nat.blt_eq] using this
  ·-- the trees
   have src : ∀ b o, (adoptLoops x.h sh β x.h.t).get b = some o -> isTreeO o = true -> (∃ c oc, findA b β = some (some c) /\ sh.get c = some oc /\ isTreeO oc = true) \/ findA b β = some none := by
    intro b o ho w
    rcases adoptLoops_get β x.h.t b o ho with ⟨ho, _⟩ | ⟨c, p, q, _, _, _, rfl⟩
    ·have k := allK_get k1 b o ho
     simp only [Bool.and_eq_true] at k
     obtain ⟨_, k⟩ := k
     split at k
     ·rename_i cc hcb
      cases cc with
      | none => exact .inr hcb
      | some c =>
       cases o with
       | tree t e0 hole =>
        cases hole with
        | some _ => simp [fitsObj] at k
        | none =>
         simp only [fitsObj] at k
         split at k
         ·rename_i hg; exact .inl ⟨c, _, hcb, hg, rfl⟩
         ·cases k
       | tree2 => simp [fitsObj] at k
       | _ => cases w
     ·cases k
    ·cases w
   have hfp : ∀ {b c : Nat}, findA b β = some (some c) -> (hidOf h H ρ σ β x.h).fp b = H.fp c := fun q => by simp [hidOf, q]
   have hfp0 : ∀ {b : Nat}, findA b β = some none -> (hidOf h H ρ σ β x.h).fp b = [] := fun q => by simp [hidOf, q]
   refine ⟨fun b o e w a ha => ?_, fun b o e w => ?_, fun b b' o o' a e e' w w' ha ha' => ?_, fun b o b' o' l a e w ha e' w' n l1 => ?_⟩
   ·rcases src b o e w with ⟨c, oc, c1, c2, c3⟩ | c1
    ·rw [hfp c1] at ha
     exact R.tr.lt _ _ c2 c3 _ ha
    ·rw [hfp0 c1] at ha; simp at ha
   ·rcases src b o e w with ⟨c, oc, c1, c2, c3⟩ | c1
    ·rw [hfp c1]; exact R.tr.nd _ _ c2 c3
    ·rw [hfp0 c1]; exact List.nodup_nil
   ·rcases src b o e w with ⟨c, oc, c1, c2, c3⟩ | c1
    ·rw [hfp c1] at ha
     rcases src b' o' e' w' with ⟨c', oc', c1', c2', c3'⟩ | c1'
     ·rw [hfp c1'] at ha'
      have := R.tr.inj _ _ _ _ _ c2 c2' c3 c3' ha ha'
      subst this
      exact distinct_inj k2 (findA_mem c1) (findA_mem c1')
     ·rw [hfp0 c1'] at ha'; simp at ha'
    ·rw [hfp0 c1] at ha; simp at ha
   ·rcases src b o e w with ⟨c, oc, c1, c2, c3⟩ | c1
    ·rw [hfp c1] at ha
     rcases objs b' o' e' with ⟨c', c1', c2'⟩ | ⟨_, c2'⟩
     ·obtain ⟨oc', p1', p2'⟩ := c2' w'
      rw [N.nu _ _ c1'] at n
      exact R.tr.ow _ _ _ _ _ _ c2 c3 ha p1' p2' n l1
     ·exact (c2' _ _ n l1).elim
    ·rw [hfp0 c1] at ha; simp at ha
 ·cases e
end
end Go.Sym
namespace Go.Sym
open Go Go.Abs
def Ends (P : Program) (f : FuncId) (h0 : Heap) (S0 : Nat -> Prop) (outer : List AFrame) (r : V) (m : AMach) : Prop :=
 m.callers = outer /\ m.fr.fn = f /\ m.fr.mode = .returning /\ m.fr.defers = [] /\ m.fr.deferred = false /\ h0.next <= m.h.next /\ (∀ c, c < h0.next -> m.h.get c = h0.get c) /\ (∀ c, m.h.next <= c -> m.h.get c = none) /\
 ∃ fn us, P.funcs[f]? = some fn /\ aresults P m.h m.fr.tm fn.results.toList = some us /\ ResR P m.h (fun c => S0 c \/ (h0.next <= c /\ c < m.h.next)) fn.resultTypes.toList r us
def Comes (C : Cfg) (f : FuncId) (s : SMach) (ρ : Env) (r : V) : Prop :=
 ∀ h0 S0 outer m, (∀ ρ', ρ.le ρ' -> MR C.P h0 S0 outer ρ' s m) -> ∃ m', Leads C.P m m' /\ Ends C.P f h0 S0 outer r m'
def Env.ext (ρ : Env) (l : List V) : Env := { ρ with v := ρ.v ++ l }
theorem Env.le_ext (ρ : Env) (l : List V) : ρ.le (ρ.ext l) := ⟨rfl, rfl, l, rfl⟩
section
variable {C : Cfg} {f : FuncId} {s s' : SMach} {ρ : Env} {r : V}
theorem Comes.step (K : ProgOk C.P) {n : Nat} {ch : List Bool} {φ : List Nat} {σ : Sub} {β : Blks} {ev : List Ev} (e : stretch C n ch s s' φ σ β = some (s', ev)) (l : List V) (hev : EvOk C.P (ρ.ext l) s.h.nv ev) (k : Comes C f s' (σ.ev (ρ.ext l)) r) : Comes C f s ρ r := by
 intro h0 S0 outer m g
 unfold stretch at e
 split at e
 ·rename_i z ev' hr
  simp only [Option.map_eq_some_iff] at e
  obtain ⟨m1, ha, e⟩ := e
  cases e
  obtain ⟨m2, k1, k2⟩ := srun_rel K n (g _ (ρ.le_ext l)) hr hev
  obtain ⟨m3, k3, k4⟩ := k h0 S0 outer m2 fun ρ' hρ' => adopt_rel ha hρ' k2
  exact ⟨m3, k1.trans k3, k4⟩
 ·cases e
theorem Comes.last (K : ProgOk C.P) {n : Nat} {ch : List Bool} {e0 : E} {ev : List Ev} (e : Sym.last C f n ch s = some (e0, ev)) (l : List V) (hev : EvOk C.P (ρ.ext l) s.h.nv ev) (hr : e0.v (ρ.ext l) = r) : Comes C f s ρ r := by
 intro h0 S0 outer m g
 unfold Sym.last at e
 split at e
 ·rename_i z ev' hrun
  simp only [Option.map_eq_some_iff] at e
  obtain ⟨⟨e1, ev2⟩, hs, e⟩ := e
  cases e
  rw [EvOk.append] at hev
  obtain ⟨m2, k1, H, cs, h1, h2, h3, R, B⟩ := srun_rel K n (g _ (ρ.le_ext l)) hrun hev.1
  refine ⟨m2, k1, ?_⟩
  unfold send at hs
  split at hs
  ·rename_i hc hm hd
   rw [hc] at h3
   cases h3
   have gm := h2.mode
   rw [hm] at gm
   have gd := h2.defers
   rw [hd] at gd
   obtain ⟨hq, hs⟩ := cond_ok hs
   simp only [Bool.and_eq_true, Bool.not_eq_true'] at hq
   have hfn := beq_tt hq.1
   split at hs
   ·rename_i fn hf
    split at hs
    ·rename_i vs c hres
     simp only at hs
     -- the results
     have hcH : Holds (ρ.ext l) c := by
      have : ev2 = asks c := by
       split at hs
       ·simp only [Option.map_eq_some_iff] at hs
        obtain ⟨_, _, q⟩ := hs
        cases q; rfl
       ·cases hs
       ·simp only [Option.map_eq_some_iff] at hs
        obtain ⟨_, _, q⟩ := hs
        cases q; rfl
      have := hev.2
      rw [‹ev2 = asks c›] at this
      exact EvOk.asks.1 this
     obtain ⟨us, u1, u2⟩ := sresults_rel R h2.tm hres hcH
     obtain ⟨H0, x0, R0, s0⟩ := settleAll_rel (P := C.P) R
     obtain ⟨H1, x1, R1, s1⟩ := freezes_rel (P := C.P) (viewsOf vs) R0
     have x1 := x0.trans x1
     have s1 := s0.trans s1
     generalize freezes (settleAll C.P z.h) (viewsOf vs) = sh1 at hs R1
     have hS : ∀ a, H1.S a -> S0 a \/ (h0.next <= a /\ a < m2.h.next) := by
      intro a ha
      have hlt := R1.S_lt a ha
      rcases s1 a ha with q | q
      ·rcases B a q with q | q
       ·exact .inl q
       ·exact .inr ⟨q, hlt⟩
      ·exact .inr ⟨q, hlt⟩
     have hk : Kept m2.h (argS m2.h H1 false) m2.h (fun c => S0 c \/ (h0.next <= c /\ c < m2.h.next)) := fun a ha => ⟨hS a ha, fun _ e => e⟩
     refine ⟨by rw [h1]; rfl, by rw [h2.fn, hfn], gm.ret_iff, ?_, by rw [h2.deferred, hq.2], R.next, R.keep, R.none_, fn, us, hf, u1, ?_⟩
     ·generalize m2.fr.defers = md at gd; cases gd; rfl
     ·split at hs
      ·rename_i t v ht
       simp only [Option.map_eq_some_iff] at hs
       obtain ⟨e', he, q⟩ := hs
       cases q
       cases u2 with
       | cons g1 g2 =>
        cases g2
        rw [ht]
        refine ⟨_, rfl, ?_⟩
        rw [<- hr]
        exact (argE_rel R1 (g1.mono x1) he).mono hk
      ·cases hs
      ·rename_i ts hne1 hne2
       simp only [Option.map_eq_some_iff] at hs
       obtain ⟨l', he, q⟩ := hs
       cases q
       have ga := (argsE_rel R1 (u2.mono x1) he).mono hk
       unfold ResR
       split
       ·rename_i t ht
        first | exact (hne1 _ ht).elim | exact (hne2 _ ht).elim | exact (hne2 _ _ ht rfl).elim | exact (hne1 _ _ ht rfl).elim | exact (hne2 _ _ ht).elim | exact (hne1 _ _ ht).elim
       ·exact ⟨_, by rw [<- hr, listE_v], ga⟩
    ·cases hs
   ·cases hs
  ·cases hs
 ·cases e
theorem sargs_rel {P : Program} {h : Heap} {H : Hid} {ρ : Env} : ∀ {ts : List TypeId} {j : Nat} {xs : List V} {as_ : List AV} {vs : List SV}, ArgsR P h H.S ts xs as_ -> sargs P j ts = some vs -> (∀ (i : Nat) x, xs[i]? = some x -> ρ.v[j + i]? = some x) -> (∀ (i : Nat) a, as_[i]? = some a -> H.κ (j + i) = a.cells) -> SDs P h H ρ vs as_
 | [], j, _, _, vs, .nil, e, _, _ => by cases e; exact .nil
 | t :: ts, j, _, _, vs, .cons (x := x) (a := a) g1 g2, e, hx, hk => by
  unfold sargs at e
  split at e
  ·rename_i cs l h1 h2
   simp only [Option.map_eq_some_iff] at e
   obtain ⟨v, h3, e⟩ := e
   cases e
   obtain ⟨p1, p2⟩ := g1.cells
   have hv : (E.vv j).v ρ = x := by
    have := hx 0 x rfl
    simp only [E.v, List.getD_eq_getElem?_getD]
    rw [show j = j + 0 from rfl, this]; rfl
   have hc : SDs P h H ρ cs a.cells := by
    refine cellsOf_rel (Nat.le_refl _) (by rw [hv]; exact p1) h1 ?_
    intro k av hk'
    have := hk 0 a rfl
    simp only [avOf, Nat.zero_add]
    rw [show j = j + 0 from rfl, this]; exact hk'
   refine .cons (packS_rel (x := x) hc p2 h3) (sargs_rel g2 h2 (fun i y hy => ?_) (fun i b hb => ?_))
   ·rw [show j + 1 + i = j + (i + 1) from by omega]; exact hx (i + 1) y (by simpa using hy)
   ·rw [show j + 1 + i = j + (i + 1) from by omega]; exact hk (i + 1) b (by simpa using hb)
  ·cases e
theorem ArgsR.lengths {P : Program} {h : Heap} {S : Nat -> Prop} {ts : List TypeId} {xs : List V} {as_ : List AV} (g : ArgsR P h S ts xs as_) : as_.length = ts.length /\ xs.length = ts.length := by
 induction g with
 | nil => exact ⟨rfl, rfl⟩
 | cons _ _ ih => simp [ih.1, ih.2]
theorem Fn.of {xs : List V} (hb : sbegin C.P f = some s) (k : Comes C f s ⟨[], [], xs⟩ r) : Fn C.P f xs r := by
 intro h S as_ fn hfn hS hno ga
 unfold sbegin at hb
 rw [hfn] at hb
 simp only at hb
 split at hb
 ·rename_i vs hv
  simp only [Option.map_eq_some_iff] at hb
  obtain ⟨fr, he, hb⟩ := hb
  subst hb
  have lens := ga.lengths
  let H : Hid := { ν := fun _ => none, κ := fun n => match as_[n]? with | some a => a.cells | none => [], κb := fun _ _ => [], S, fp := fun _ => [] }
  have hargs : ∀ ρ', (⟨[], [], xs⟩ : Env).le ρ' -> SDs C.P h H ρ' vs as_ := by
   intro ρ' hρ'
   obtain ⟨_, _, l, hl⟩ := hρ'
   refine sargs_rel (H := H) ga hv (fun i x hx => ?_) (fun i a ha => ?_)
   ·rw [hl, Nat.zero_add]
    simp only
    rw [List.getElem?_append_left (List.getElem?_eq_some_iff.1 hx).1]; exact hx
   ·simp only [H, Nat.zero_add, ha]
  obtain ⟨g, g1, _⟩ := senter_rel (hargs _ ⟨rfl, rfl, [], by simp⟩) he
  refine ⟨g, g1, fun callers => ?_⟩
  have start : ∀ ρ', (⟨[], [], xs⟩ : Env).le ρ' -> MR C.P h S callers ρ' { fr, callers := [], h := { next := 0, ats := fn.params.size, nv := fn.params.size, t := .nil } } { fr := g, callers, h } := by
   intro ρ' hρ'
   obtain ⟨g', g1', g2⟩ := senter_rel (hargs ρ' hρ') he
   rw [g1] at g1'; cases g1'
   have hnil : ∀ b o, (({ next := 0, ats := fn.params.size, nv := fn.params.size, t := .nil } : SHeap).get b) = some o -> False := by
    intro b o e
    have : (Tr.nil : Tr SObj).get b = some o := e
    rw [Tr.get_nil] at this; cases this
   refine ⟨H, [], rfl, g2, .nil, ⟨fun b o e => (hnil b o e).elim, fun b _ o _ _ _ _ e => (hnil b o e).elim, fun b o _ _ e => (hnil b o e).elim, hS, Nat.le_refl _, fun _ _ => rfl, fun _ _ => rfl, (fun _ _ _ e => by cases e), ?_, fun _ _ _ => rfl, hno, fun b o e => (hnil b o e).elim, ⟨fun b o e => (hnil b o e).elim, fun b o e => (hnil b o e).elim, fun b _ o _ _ e => (hnil b o e).elim, fun b o _ _ _ _ e => (hnil b o e).elim⟩⟩, fun a ha => .inl ha⟩
   intro n hn
   have hn : fn.params.size <= n := hn
   have : as_[n]? = none := List.getElem?_eq_none (by rw [lens.1]; simpa using hn)
   simp only [H, this]
  obtain ⟨m', k1, k2⟩ := k h S callers _ start
  obtain ⟨q1, q2, q3, q4, q5, q6, q7, q8, fn', us, q9, q10, q11⟩ := k2
  rw [hfn] at q9; cases q9
  obtain ⟨mf, mc, mh⟩ := m'
  simp only at q1 q2 q3 q4 q5 q6 q7 q8 q10 q11
  subst q1
  exact ⟨mf, mh, us, q6, q7, q8, q11, q2, q3, q4, q5, q10, k1⟩
 ·cases hb
def EndsO (P : Program) (f : FuncId) (h0 : Heap) (outer : List AFrame) (r : V) (m : AMach) : Prop :=
 m.callers = outer /\ m.fr.fn = f /\ m.fr.mode = .returning /\ m.fr.defers = [] /\ m.fr.deferred = false /\ h0.next <= m.h.next /\ (∀ c, c < h0.next -> m.h.get c = h0.get c) /\ (∀ c, m.h.next <= c -> m.h.get c = none) /\
 ∃ fn us F, P.funcs[f]? = some fn /\ aresults P m.h m.fr.tm fn.results.toList = some us /\ ResO P m.h fn.resultTypes.toList r us F /\ F.Nodup /\ ∀ a, a ∈ F -> h0.next <= a /\ a < m.h.next
def ComesO (C : Cfg) (f : FuncId) (s : SMach) (ρ : Env) (r : V) : Prop :=
 ∀ h0 S0 outer m, (∀ ρ', ρ.le ρ' -> MR C.P h0 S0 outer ρ' s m) -> ∃ m', Leads C.P m m' /\ EndsO C.P f h0 outer r m'
theorem ComesO.step (K : ProgOk C.P) {n : Nat} {ch : List Bool} {φ : List Nat} {σ : Sub} {β : Blks} {ev : List Ev} (e : stretch C n ch s s' φ σ β = some (s', ev)) (l : List V) (hev : EvOk C.P (ρ.ext l) s.h.nv ev) (k : ComesO C f s' (σ.ev (ρ.ext l)) r) : ComesO C f s ρ r := by
 intro h0 S0 outer m g
 unfold stretch at e
 split at e
 ·rename_i z ev' hr
  simp only [Option.map_eq_some_iff] at e
  obtain ⟨m1, ha, e⟩ := e
  cases e
  obtain ⟨m2, k1, k2⟩ := srun_rel K n (g _ (ρ.le_ext l)) hr hev
  obtain ⟨m3, k3, k4⟩ := k h0 S0 outer m2 fun ρ' hρ' => adopt_rel ha hρ' k2
  exact ⟨m3, k1.trans k3, k4⟩
 ·cases e
theorem ownVals_rel {P : Program} {h0 h : Heap} {H : Hid} {ρ : Env} {sh : SHeap} (R : HR P h0 h H ρ sh) : ∀ {ts : List TypeId} {vs : List SV} {us : List AV} {es : List E} {bs : List Nat}, SDs P h H ρ vs us -> ownVals P sh ts vs = some (es, bs) -> Owned sh bs /\ ArgsO P h ts (es.map (E.v ρ)) us (bs.flatMap (blkOf H sh))
 | [], [], us, es, bs, g, k => by cases k; cases g; exact ⟨fun k hk => by simp at hk, .nil⟩
 | t :: ts, v :: vs, us, es, bs, g, k => by
  cases g with
  | cons g1 g2 =>
  rename_i u us'
  unfold ownVals at k
  split at k
  ·rename_i e l h1 h2
   obtain ⟨e, eb⟩ := e
   obtain ⟨l, lb⟩ := l
   cases k
   obtain ⟨hp, h1⟩ := cond_ok h1
   obtain ⟨w1, w2⟩ := ownVals_rel R g2 h2
   have fin : Owned sh eb /\ OVal P h t (e.v ρ) u (eb.flatMap (blkOf H sh)) := by
    unfold packed? at hp
    split at hp
    ·rename_i ht
     split at hp
     ·rename_i cs
      simp only [decide_eq_true_eq] at hp
      cases g1 with
      | agg g1 =>
       obtain ⟨c, r, y1, y2, y3⟩ := ownVal_rel R h1 g1
       have hl := y2.length
       rw [hp] at hl
       have hl2 := g1.length
       have hr : r = [] := by
        rw [y1] at hl2
        simp at hl hl2
        exact List.length_eq_zero_iff.1 (by omega)
       subst hr
       rw [List.append_nil] at y1
       subst y1
       exact ⟨y3, _, y2, .inl ⟨ht, rfl⟩⟩
     ·cases hp
    ·rename_i ht
     simp only [Bool.and_eq_true, decide_eq_true_eq] at hp
     have hb : v ≠ .bad := by intro q; subst q; simp [SV.one] at hp
     have gc := g1.cells' hb
     rw [g1.one' hp.1] at gc
     obtain ⟨c, r, y1, y2, y3⟩ := ownVal_rel R h1 gc
     have hl := y2.length
     rw [hp.2] at hl
     have hl' : c.length = 1 := by simpa using hl.symm
     cases c with
     | nil => simp at hl'
     | cons a c =>
      cases c with
      | nil => simp at y1; obtain ⟨rfl, _⟩ := y1; exact ⟨y3, _, y2, .inr ⟨ht, rfl⟩⟩
      | cons b c => simp at hl'
    ·cases hp
   exact ⟨fin.1.append w1, by rw [List.flatMap_append]; exact .cons fin.2 w2⟩
  ·cases k
 | [], _ :: _, _, _, _, _, k => by cases k
 | _ :: _, [], _, _, _, _, k => by cases k
theorem ComesO.last (K : ProgOk C.P) {n : Nat} {ch : List Bool} {e0 : E} {ev : List Ev} (e : Sym.lastO C f n ch s = some (e0, ev)) (l : List V) (hev : EvOk C.P (ρ.ext l) s.h.nv ev) (hr : e0.v (ρ.ext l) = r) : ComesO C f s ρ r := by
 intro h0 S0 outer m g
 unfold Sym.lastO at e
 split at e
 ·rename_i z ev' hrun
  simp only [Option.map_eq_some_iff] at e
  obtain ⟨⟨e1, ev2⟩, hs, e⟩ := e
  cases e
  rw [EvOk.append] at hev
  obtain ⟨m2, k1, H, cs, h1, h2, h3, R, B⟩ := srun_rel K n (g _ (ρ.le_ext l)) hrun hev.1
  refine ⟨m2, k1, ?_⟩
  unfold sendO at hs
  split at hs
  ·rename_i hc hm hd
   rw [hc] at h3
   cases h3
   have gm := h2.mode
   rw [hm] at gm
   have gd := h2.defers
   rw [hd] at gd
   obtain ⟨hq, hs⟩ := cond_ok hs
   simp only [Bool.and_eq_true, Bool.not_eq_true'] at hq
   have hfn := beq_tt hq.1
   split at hs
   ·rename_i fn hf
    split at hs
    ·rename_i vs c hres
     split at hs
     case h_2 => cases hs
     rename_i es bs hov
     obtain ⟨hdis, hs'⟩ := cond_ok hs
     clear hs
     have hs := hs'
     clear hs'
     have hcH : Holds (ρ.ext l) c := by
      have : ev2 = asks c := by
       split at hs
       ·cases hs; rfl
       ·cases hs
       ·cases hs; rfl
      have := hev.2
      rw [‹ev2 = asks c›] at this
      exact EvOk.asks.1 this
     obtain ⟨us, u1, u2⟩ := sresults_rel R h2.tm hres hcH
     obtain ⟨H0, x0, R0, s0⟩ := settleAll_rel (P := C.P) R
     obtain ⟨ko, ga⟩ := ownVals_rel R0 (u2.mono x0) hov
     have nd := blks_nodup R0 (distinctL_nodup hdis) ko
     refine ⟨by rw [h1]; rfl, by rw [h2.fn, hfn], gm.ret_iff, ?_, by rw [h2.deferred, hq.2], R.next, R.keep, R.none_, fn, us, _, hf, u1, ?_, nd, ?_⟩
     ·generalize m2.fr.defers = md at gd; cases gd; rfl
     ·split at hs
      ·rename_i t v ht
       cases hs
       rw [ht] at ga ⊢
       generalize hF : List.flatMap (blkOf H0 (settleAll C.P z.h)) bs = F at ga ⊢
       cases ga with
       | cons g1 g2 =>
        cases g2
        refine ⟨_, rfl, ?_⟩
        rw [<- hr, List.append_nil]
        exact g1
      ·cases hs
      ·rename_i ts es' hne1 hne2
       cases hs
       unfold ResO
       split
       ·rename_i t ht
        first | exact (hne1 _ ht).elim | exact (hne2 _ ht).elim | exact (hne2 _ _ ht rfl).elim | exact (hne1 _ _ ht rfl).elim | exact (hne2 _ _ ht).elim | exact (hne1 _ _ ht).elim
       ·exact ⟨_, by rw [<- hr, listE_v], ga⟩
     ·intro a ha
      obtain ⟨k, hk, hkb⟩ := List.mem_flatMap.1 ha
      obtain ⟨ok, e1, w1⟩ := ko k hk
      exact (R0.hasB e1 w1 (blkOf_has e1 hkb)).2
    ·cases hs
   ·cases hs
  ·cases hs
 ·cases e
theorem FnO.of {xs : List V} (hb : sbegin C.P f = some s) (k : ComesO C f s ⟨[], [], xs⟩ r) : FnO C.P f xs r := by
 intro h S as_ fn hfn hS hno ga
 unfold sbegin at hb
 rw [hfn] at hb
 simp only at hb
 split at hb
 ·rename_i vs hv
  simp only [Option.map_eq_some_iff] at hb
  obtain ⟨fr, he, hb⟩ := hb
  subst hb
  have lens := ga.lengths
  let H : Hid := { ν := fun _ => none, κ := fun n => match as_[n]? with | some a => a.cells | none => [], κb := fun _ _ => [], S, fp := fun _ => [] }
  have hargs : ∀ ρ', (⟨[], [], xs⟩ : Env).le ρ' -> SDs C.P h H ρ' vs as_ := by
   intro ρ' hρ'
   obtain ⟨_, _, l, hl⟩ := hρ'
   refine sargs_rel (H := H) ga hv (fun i x hx => ?_) (fun i a ha => ?_)
   ·rw [hl, Nat.zero_add]
    simp only
    rw [List.getElem?_append_left (List.getElem?_eq_some_iff.1 hx).1]; exact hx
   ·simp only [H, Nat.zero_add, ha]
  obtain ⟨g, g1, _⟩ := senter_rel (hargs _ ⟨rfl, rfl, [], by simp⟩) he
  refine ⟨g, g1, fun callers => ?_⟩
  have start : ∀ ρ', (⟨[], [], xs⟩ : Env).le ρ' -> MR C.P h S callers ρ' { fr, callers := [], h := { next := 0, ats := fn.params.size, nv := fn.params.size, t := .nil } } { fr := g, callers, h } := by
   intro ρ' hρ'
   obtain ⟨g', g1', g2⟩ := senter_rel (hargs ρ' hρ') he
   rw [g1] at g1'; cases g1'
   have hnil : ∀ b o, (({ next := 0, ats := fn.params.size, nv := fn.params.size, t := .nil } : SHeap).get b) = some o -> False := by
    intro b o e
    have : (Tr.nil : Tr SObj).get b = some o := e
    rw [Tr.get_nil] at this; cases this
   refine ⟨H, [], rfl, g2, .nil, ⟨fun b o e => (hnil b o e).elim, fun b _ o _ _ _ _ e => (hnil b o e).elim, fun b o _ _ e => (hnil b o e).elim, hS, Nat.le_refl _, fun _ _ => rfl, fun _ _ => rfl, (fun _ _ _ e => by cases e), ?_, fun _ _ _ => rfl, hno, fun b o e => (hnil b o e).elim, ⟨fun b o e => (hnil b o e).elim, fun b o e => (hnil b o e).elim, fun b _ o _ _ e => (hnil b o e).elim, fun b o _ _ _ _ e => (hnil b o e).elim⟩⟩, fun a ha => .inl ha⟩
   intro n hn
   have hn : fn.params.size <= n := hn
   have : as_[n]? = none := List.getElem?_eq_none (by rw [lens.1]; simpa using hn)
   simp only [H, this]
  obtain ⟨m', k1, k2⟩ := k h S callers _ start
  obtain ⟨q1, q2, q3, q4, q5, q6, q7, q8, fn', us, F, q9, q10, q11, q12, q13⟩ := k2
  rw [hfn] at q9; cases q9
  obtain ⟨mf, mc, mh⟩ := m'
  simp only at q1 q2 q3 q4 q5 q6 q7 q8 q10 q11 q13
  subst q1
  exact ⟨mf, mh, us, F, q6, q7, q8, q11, q12, q13, q2, q3, q4, q5, q10, k1⟩
 ·cases hb
end
end Go.Sym
namespace X
open Go Go.Abs Go.Sym
noncomputable abbrev prog : Program := Go.Proofs.Tryd.prog
noncomputable def z {α : Type} : Tr α := .nil
noncomputable def l {α : Type} (v : α) : Tr α := .node (some v) .nil .nil .nil .nil
noncomputable def n {α : Type} (a b c d : Tr α) : Tr α := .node none a b c d
noncomputable def m {α : Type} (v : α) (a b c d : Tr α) : Tr α := .node (some v) a b c d
def pl : Plans := [(4, [(6, [(0, []), (2, []), (3, []), (4, []), (5, []), (6, []), (8, []), (1, [4, 5, 6]), (7, [])])]), (10, [(7, [(0, []), (1, []), (2, []), (3, []), (4, []), (5, []), (6, []), (7, []), (8, []), (9, []), (10, []), (11, []), (12, []), (13, []), (14, []), (15, []), (16, []), (17, []), (18, []), (19, []), (20, []), (21, []), (22, []), (23, []), (24, []), (25, []), (26, []), (27, []), (28, []), (29, []), (30, []), (31, []), (32, []), (33, []), (34, [33]), (35, []), (36, []), (37, []), (38, []), (39, []), (40, []), (41, []), (42, []), (43, []), (44, []), (45, []), (46, []), (47, []), (48, []), (49, []), (50, []), (51, []), (52, []), (53, []), (54, []), (55, []), (56, []), (57, []), (58, []), (59, []), (60, []), (61, []), (62, []), (63, []), (64, []), (65, [])])]), (11, [(2, [(0, []), (1, []), (2, []), (4, []), (3, [0, 4]), (5, [0]), (6, []), (7, [])])]), (13, [(10, [(0, []), (1, []), (2, []), (3, []), (4, []), (5, []), (6, []), (7, []), (8, []), (9, []), (10, []), (11, []), (12, []), (13, []), (14, []), (15, []), (16, []), (17, []), (18, []), (19, []), (20, []), (21, [])])]), (14, [(5, [(0, []), (1, []), (2, []), (3, []), (4, []), (5, []), (6, []), (7, []), (8, []), (9, []), (10, []), (11, []), (12, []), (13, []), (14, []), (15, []), (16, [])])]), (18, [(6, [(0, []), (1, []), (2, []), (3, []), (4, []), (5, []), (6, []), (7, []), (8, []), (9, [])])]), (19, [(11, [(0, []), (1, []), (2, []), (3, []), (4, []), (5, []), (6, []), (7, []), (8, []), (9, []), (10, []), (11, []), (12, []), (13, []), (14, []), (15, []), (16, []), (17, []), (18, []), (19, []), (20, []), (21, [3, 8, 11]), (22, []), (23, []), (24, [])]), (18, [(0, []), (1, []), (2, []), (3, []), (4, []), (5, []), (6, []), (7, []), (8, []), (9, []), (10, []), (11, []), (12, []), (13, []), (14, []), (15, []), (16, []), (17, []), (18, []), (19, []), (20, []), (21, []), (22, []), (23, []), (24, []), (25, []), (26, []), (27, []), (28, []), (29, []), (30, []), (31, []), (32, []), (33, []), (34, []), (35, [3, 8, 11, 16, 19, 21, 24, 27]), (36, []), (37, []), (38, []), (39, [])])]), (20, [(13, [(0, []), (1, []), (2, []), (3, []), (4, []), (5, []), (6, []), (7, []), (8, []), (9, []), (10, []), (11, []), (12, []), (13, []), (14, []), (15, []), (16, []), (17, []), (18, []), (19, []), (20, []), (21, []), (22, []), (23, []), (24, []), (25, []), (26, []), (29, []), (30, []), (31, []), (32, []), (33, []), (34, []), (35, []), (36, []), (27, [3, 8, 11, 13, 16, 19, 33, 36]), (28, []), (37, []), (38, []), (39, []), (40, [])]), (22, [(0, []), (1, []), (2, []), (3, []), (4, []), (5, []), (6, []), (7, []), (8, []), (9, []), (10, []), (11, []), (12, []), (13, []), (14, []), (15, []), (16, []), (17, []), (18, []), (19, []), (20, []), (21, []), (22, []), (23, []), (24, []), (25, []), (26, []), (27, []), (28, []), (29, []), (30, []), (31, [2, 5, 9, 12, 14]), (32, []), (33, [])]), (24, [(0, []), (1, []), (2, []), (3, []), (4, []), (5, []), (6, []), (7, []), (8, []), (9, []), (10, []), (11, []), (12, []), (13, []), (14, []), (15, [])])]), (23, [(6, [(0, []), (1, []), (2, []), (3, []), (4, []), (5, []), (6, []), (7, []), (8, [])])]), (24, [(1, [(0, []), (1, []), (2, []), (3, []), (4, []), (5, []), (6, []), (7, []), (8, []), (9, []), (10, []), (11, []), (12, []), (13, []), (14, []), (15, [6, 11]), (16, [11]), (17, [])]), (6, [(0, []), (1, []), (2, []), (3, []), (4, []), (5, []), (6, []), (7, []), (8, [1]), (9, [1]), (10, []), (11, []), (12, []), (13, [])]), (7, [(0, []), (1, []), (2, []), (3, []), (4, []), (5, []), (6, []), (7, []), (8, [1]), (9, [1]), (10, []), (11, []), (12, []), (13, [])])]), (25, [(7, [(0, []), (4, []), (1, [4]), (2, [4]), (3, [4]), (5, []), (6, []), (7, []), (8, []), (9, [])])]), (29, [(10, [(0, []), (1, []), (2, []), (3, []), (4, []), (5, [0]), (6, []), (7, []), (8, [])])]), (31, [(15, [(0, []), (1, []), (2, []), (3, []), (4, []), (5, []), (6, []), (7, []), (8, []), (9, []), (10, []), (11, []), (12, []), (13, []), (14, []), (15, []), (16, []), (17, []), (18, [])]), (17, [(0, []), (1, []), (2, [0]), (3, []), (4, []), (5, [])])]), (32, [(6, [(0, []), (1, []), (3, []), (4, []), (2, [3]), (5, []), (6, []), (7, [])]), (15, [(0, []), (1, []), (2, []), (3, []), (4, []), (5, []), (6, []), (7, []), (8, []), (9, []), (10, []), (11, []), (12, []), (13, []), (14, []), (15, []), (16, []), (17, []), (18, [])])]), (33, [(6, [(0, []), (1, []), (2, []), (3, []), (4, []), (5, []), (6, []), (7, []), (8, []), (9, [])])]), (35, [(6, [(0, []), (1, []), (2, []), (3, []), (4, []), (5, []), (6, []), (7, []), (8, [])])]), (43, [(1, [(0, []), (1, []), (3, []), (4, []), (2, [4]), (6, []), (5, []), (7, []), (8, []), (9, [])]), (4, [(0, []), (1, []), (2, []), (3, []), (4, []), (5, []), (6, [4]), (7, [])]), (10, [(0, []), (1, []), (2, []), (3, []), (4, []), (5, []), (6, []), (7, []), (8, []), (9, []), (10, [])]), (12, [(0, []), (1, []), (2, []), (3, []), (4, []), (5, []), (6, []), (7, []), (8, []), (9, [])]), (13, [(0, []), (1, []), (2, []), (3, []), (4, []), (5, []), (6, []), (7, []), (8, [])]), (15, [(0, []), (1, []), (2, []), (3, []), (4, []), (5, []), (6, []), (7, []), (8, []), (9, [])]), (16, [(0, []), (1, []), (2, []), (3, []), (4, []), (5, []), (6, []), (7, []), (8, [])]), (20, [(0, []), (1, []), (2, []), (3, []), (4, []), (5, []), (6, []), (7, []), (8, []), (9, []), (10, []), (11, []), (12, []), (13, []), (14, []), (15, []), (16, []), (17, [1, 4, 5]), (18, []), (19, [])])]), (44, [(1, [(0, []), (1, []), (2, []), (3, []), (4, []), (5, []), (6, []), (7, []), (8, []), (9, []), (10, []), (11, [])]), (5, [(0, []), (1, []), (2, []), (3, []), (4, []), (5, []), (6, []), (7, []), (8, []), (9, []), (10, [])]), (10, [(0, []), (1, []), (2, []), (3, []), (4, []), (5, []), (6, []), (7, []), (8, []), (9, []), (10, [])])]), (50, [(4, [(0, []), (1, []), (2, []), (3, []), (4, []), (5, []), (6, []), (7, []), (8, []), (9, []), (10, []), (11, []), (12, []), (13, []), (14, []), (15, []), (16, [])])]), (51, [(6, [(0, []), (1, []), (2, []), (3, []), (4, []), (5, []), (6, []), (7, []), (8, [])])]), (55, [(6, [(0, []), (1, []), (2, []), (3, []), (4, []), (5, []), (6, []), (7, [])]), (7, [(0, []), (1, []), (2, []), (3, []), (4, []), (5, []), (6, []), (7, []), (8, []), (9, []), (10, []), (11, []), (12, []), (13, []), (14, []), (15, []), (16, []), (17, [])]), (8, [(0, []), (1, []), (2, []), (3, []), (4, []), (5, []), (6, []), (7, []), (8, []), (9, []), (10, []), (11, []), (12, [])])]), (62, [(5, [(0, []), (1, []), (2, []), (3, []), (4, []), (5, []), (6, [4]), (7, []), (8, []), (9, []), (10, [])])]), (64, [(7, [(0, []), (1, []), (2, []), (3, []), (4, []), (5, []), (6, []), (7, []), (8, []), (9, []), (10, []), (11, []), (12, []), (13, []), (14, [])])]), (66, [(3, [(0, []), (2, []), (5, []), (1, [2]), (3, []), (4, []), (6, [])])]), (81, [(8, [(0, []), (1, []), (2, []), (3, []), (4, []), (5, []), (6, []), (7, []), (8, []), (9, []), (10, [0, 2, 5]), (11, []), (12, [0]), (13, []), (14, [])])]), (83, [(3, [(0, []), (1, []), (2, []), (3, []), (4, []), (5, []), (6, []), (7, []), (8, []), (9, []), (10, []), (11, []), (12, []), (13, [])])]), (84, [(7, [(0, []), (1, []), (2, []), (3, []), (4, []), (5, []), (6, []), (7, []), (8, []), (9, []), (10, []), (11, []), (12, []), (13, []), (16, []), (14, [3, 6, 9]), (15, []), (17, []), (18, []), (19, [])])]), (89, [(1, [(0, []), (1, []), (2, []), (3, []), (4, []), (5, []), (6, []), (7, []), (8, []), (9, []), (11, []), (14, []), (16, []), (10, [3, 5, 11, 14, 16]), (12, []), (13, []), (15, [3, 5, 11, 16]), (17, []), (18, []), (19, []), (20, [])])]), (98, [(0, [(0, []), (1, []), (2, []), (3, []), (4, []), (5, [])])]), (102, [(19, [(0, []), (1, []), (2, []), (3, []), (4, []), (5, []), (6, []), (7, []), (8, [])])]), (110, [(8, [(0, []), (1, []), (2, []), (3, []), (4, []), (5, []), (6, []), (7, []), (8, [])]), (9, [(0, []), (1, []), (2, []), (3, []), (4, []), (5, []), (6, []), (7, []), (8, [])])]), (111, [(11, [(0, []), (1, []), (2, []), (3, []), (4, []), (5, []), (6, []), (7, []), (8, []), (9, []), (10, []), (11, [])])])]
noncomputable def C (f : Nat) (l : List Nat) : Code := codeAt prog f l
noncomputable def O (f : Nat) (l : List Nat) : Array Oper := opsAt prog f l
noncomputable def R (f : Nat) (l : List Nat) (i : Nat) : AItem := regAt prog f l i
noncomputable def PA (f : Nat) (l : List Nat) : Array Tmp := parAt prog f l
noncomputable def q (a b : Nat) : Go.Sym.PA := .cell a b
noncomputable def FT (e : E) : E := .and (.le (.il (-9223372036854775808)) e) (.le e (.il 9223372036854775807))
noncomputable def HM (x : E) : E := .snoc (.snoc (.snoc (.snoc .emp (.ofI (.toI (.get x (.il 0))))) (.get x (.il 1))) (.get x (.il 2))) (.get x (.il 3))
noncomputable def Z (l : List Nat) : List Go.Sym.PA := l.map fun a => .cell a 0
noncomputable def IB (i x : E) : E := .and (.le (.il 0) i) (.lt i (.len x))
end X
namespace X
open Go Go.Abs Go.Sym
namespace frac_gcd
abbrev f : Nat := 86
noncomputable def K : Cfg := ⟨prog, pl, [], [], []⟩
noncomputable def s0 : SMach := ⟨⟨86, 12, (m (.int .u64 (.toI (.vv 0))) (l (.int .u64 (.toI (.vv 1)))) z z z), [.code (C 86 [])], [], .run, false, none⟩, [], ⟨0, 2, 2, z⟩⟩
noncomputable def s1 : SMach := ⟨⟨86, 12, (m (.int .u64 (.iv 0)) (l (.int .u64 (.iv 1))) z z z), [.code (C 86 [1, 0, 0, 0]), .inLoop (C 86 [1, 0, 0, 0]), .inBlock 0, .code (C 86 [1, 1])], [], .run, false, none⟩, [], ⟨0, 2, 2, z⟩⟩
theorem p0 : stretch K 7 [] s0 s1 [] ⟨[(.toI (.vv 0)), (.toI (.vv 1))], [], [(.vv 0), (.vv 1)], (Z [0, 1])⟩ [] = some (s1, []) := by kernel_rfl
theorem p1 : stretch K 19 [true] s1 s1 [] ⟨[(.rem (.iv 1) (.iv 0)), (.iv 0)], [], [(.vv 0), (.vv 1)], (Z [0, 1])⟩ [] = some (s1, [.ask (.lt (.il 0) (.iv 0)), .ask (.not (.eq (.iv 0) (.il 0)))]) := by kernel_rfl
theorem p2 : last K 86 14 [false] s1 = some ((.ofI (.iv 1)), [.ask (.not (.lt (.il 0) (.iv 0)))]) := by kernel_rfl
theorem b : sbegin prog 86 = some s0 := by kernel_rfl
end frac_gcd
end X
namespace X
open Go Go.Abs Go.Sym
namespace frac_size
abbrev f : Nat := 87
noncomputable def K : Cfg := ⟨prog, pl, [(87, 7), (87, 6), (87, 9)], [], []⟩
noncomputable def s0 : SMach := ⟨⟨87, 10, (l (.int .i64 (.toI (.vv 0)))), [.code (C 87 [])], [], .run, false, none⟩, [], ⟨0, 1, 1, z⟩⟩
theorem p1 : last K 87 19 [false] s0 = some ((.ofI (.wrap .u64 (.toI (.vv 0)))), [.ask (.not (.lt (.toI (.vv 0)) (.il 0)))]) := by kernel_rfl
theorem b : sbegin prog 87 = some s0 := by kernel_rfl
end frac_size
end X
namespace X
open Go Go.Abs Go.Sym
namespace ref01_digits
abbrev f : Nat := 93
noncomputable def K : Cfg := ⟨prog, pl, [], [], []⟩
noncomputable def s0 : SMach := ⟨⟨93, 19, (l (.int .i64 (.toI (.vv 0)))), [.code (C 93 [])], [], .run, false, none⟩, [], ⟨0, 1, 1, z⟩⟩
noncomputable def s1 : SMach := ⟨⟨93, 19, (m (.int .i64 (.iv 0)) z z (l (.view 0)) z), [.code (C 93 [1, 1, 0, 0, 0]), .inLoop (C 93 [1, 1, 0, 0, 0]), .inBlock 0, .code (C 93 [1, 1, 1])], [], .run, false, none⟩, [], ⟨1, 1, 2, (l (.arr 3 (.vv 1) 0))⟩⟩
theorem p0 : stretch K 11 [] s0 s1 [] ⟨[(.toI (.vv 0))], [], [(.vv 0), .nil], [(q 0 0)]⟩ [(0, none)] = some (s1, []) := by kernel_rfl
theorem p1 : stretch K 33 [true] s1 s1 [] ⟨[(.quo (.iv 0) (.il 10000))], [], [(.vv 0), (.snoc (.vv 1) (.ofI (.max (.rem (.iv 0) (.il 10000)) (.sub (.il 0) (.rem (.iv 0) (.il 10000))))))], [(q 0 0)]⟩ [(0, (some 2))] = some (s1, [.ask (.not (.eq (.iv 0) (.il 0))), .ask (FT (.sub (.il 0) (.rem (.iv 0) (.il 10000)))), .ask (.le (.add (.len (.vv 1)) (.il 1)) (.il 8796093021696)), .ask (FT (.quo (.iv 0) (.il 10000)))]) := by kernel_rfl
theorem p2 : last K 93 14 [false] s1 = some ((.vv 1), [.ask (.not (.not (.eq (.iv 0) (.il 0))))]) := by kernel_rfl
theorem b : sbegin prog 93 = some s0 := by kernel_rfl
end ref01_digits
end X
namespace X
open Go Go.Abs Go.Sym
namespace ref01_cut
abbrev f : Nat := 109
noncomputable def K : Cfg := ⟨prog, pl, [], [], []⟩
noncomputable def s0 : SMach := ⟨⟨109, 21, (l (.pure 3 (.vv 0) (q 0 0))), [.code (C 109 [])], [], .run, false, none⟩, [], ⟨0, 1, 1, z⟩⟩
noncomputable def s1 : SMach := ⟨⟨109, 21, (l (.pure 3 (.vv 1) (q 1 0))), [.code (C 109 [1, 0, 0, 0]), .inLoop (C 109 [1, 0, 0, 0]), .inBlock 0, .code (C 109 [1, 1])], [], .run, false, none⟩, [], ⟨0, 2, 2, z⟩⟩
theorem p0 : stretch K 7 [] s0 s1 [] ⟨[], [], [(.vv 0), (.vv 0)], (Z [0, 0])⟩ [] = some (s1, []) := by kernel_rfl
theorem p1 : stretch K 29 [true, true] s1 s1 [] ⟨[], [], [(.vv 0), (.cut (.vv 1) (.il 0) (.sub (.len (.vv 1)) (.il 1)))], [(q 0 0), (.sub (q 1 0) (.il 0) (.sub (.len (.vv 1)) (.il 1)) 1)]⟩ [] = some (s1, [.ask (.lt (.il 0) (.len (.vv 1))), .ask (FT (.sub (.len (.vv 1)) (.il 1))), .ask (IB (.sub (.len (.vv 1)) (.il 1)) (.vv 1)), .ask (.eq (.toI (.get (.vv 1) (.sub (.len (.vv 1)) (.il 1)))) (.il 0)), .ask (FT (.sub (.len (.vv 1)) (.il 1))), .ask (.le (.il 0) (.sub (.len (.vv 1)) (.il 1))), .ask (.le (.sub (.len (.vv 1)) (.il 1)) (.len (.vv 1)))]) := by kernel_rfl
theorem p2 : last K 109 24 [true, false] s1 = some ((.vv 1), [.ask (.lt (.il 0) (.len (.vv 1))), .ask (FT (.sub (.len (.vv 1)) (.il 1))), .ask (IB (.sub (.len (.vv 1)) (.il 1)) (.vv 1)), .ask (.not (.eq (.toI (.get (.vv 1) (.sub (.len (.vv 1)) (.il 1)))) (.il 0)))]) := by kernel_rfl
theorem p3 : last K 109 24 [false] s1 = some ((.vv 1), [.ask (.not (.lt (.il 0) (.len (.vv 1))))]) := by kernel_rfl
theorem b : sbegin prog 109 = some s0 := by kernel_rfl
end ref01_cut
end X
namespace X
open Go Go.Abs Go.Sym
namespace ref01_compare
abbrev f : Nat := 110
noncomputable def K : Cfg := ⟨prog, pl, [], [], []⟩
noncomputable def s0 : SMach := ⟨⟨110, 41, (m (.pure 3 (.vv 0) (q 0 0)) (l (.pure 3 (.vv 1) (q 1 0))) z z z), [.code (C 110 [])], [], .run, false, none⟩, [], ⟨0, 2, 2, z⟩⟩
noncomputable def s1 : SMach := ⟨⟨110, 41, (m (.pure 3 (.vv 0) (q 2 0)) (m (.pure 3 (.vv 1) (q 3 0)) (l (.int .i64 (.iv 0))) z z z) z z z), [.code (C 110 [1, 1, 0, 1, 0, 0]), .inLoop (C 110 [1, 1, 0, 1, 0, 0]), .inBlock 0, .code (C 110 [1, 1, 1])], [], .run, false, none⟩, [], ⟨0, 4, 2, z⟩⟩
theorem p0 : last K 110 29 [true, true] s0 = some ((.ofI (.il (-1))), [.ask (.not (.eq (.len (.vv 0)) (.len (.vv 1)))), .ask (.lt (.len (.vv 0)) (.len (.vv 1)))]) := by kernel_rfl
theorem p1 : last K 110 30 [true, false] s0 = some ((.ofI (.il 1)), [.ask (.not (.eq (.len (.vv 0)) (.len (.vv 1)))), .ask (.not (.lt (.len (.vv 0)) (.len (.vv 1))))]) := by kernel_rfl
theorem p2 : stretch K 25 [false] s0 s1 [] ⟨[(.sub (.len (.vv 0)) (.il 1))], [], [(.vv 0), (.vv 1)], (Z [0, 1, 0, 1])⟩ [] = some (s1, [.ask (.not (.not (.eq (.len (.vv 0)) (.len (.vv 1))))), .ask (FT (.sub (.len (.vv 0)) (.il 1)))]) := by kernel_rfl
theorem p3 : last K 110 42 [true, true, true] s1 = some ((.ofI (.il (-1))), [.ask (.le (.il 0) (.iv 0)), .ask (IB (.iv 0) (.vv 0)), .ask (IB (.iv 0) (.vv 1)), .ask (.not (.eq (.toI (.get (.vv 0) (.iv 0))) (.toI (.get (.vv 1) (.iv 0))))), .ask (IB (.iv 0) (.vv 0)), .ask (IB (.iv 0) (.vv 1)), .ask (.lt (.toI (.get (.vv 0) (.iv 0))) (.toI (.get (.vv 1) (.iv 0))))]) := by kernel_rfl
theorem p4 : last K 110 43 [true, true, false] s1 = some ((.ofI (.il 1)), [.ask (.le (.il 0) (.iv 0)), .ask (IB (.iv 0) (.vv 0)), .ask (IB (.iv 0) (.vv 1)), .ask (.not (.eq (.toI (.get (.vv 0) (.iv 0))) (.toI (.get (.vv 1) (.iv 0))))), .ask (IB (.iv 0) (.vv 0)), .ask (IB (.iv 0) (.vv 1)), .ask (.not (.lt (.toI (.get (.vv 0) (.iv 0))) (.toI (.get (.vv 1) (.iv 0)))))]) := by kernel_rfl
theorem p5 : stretch K 31 [true, false] s1 s1 [] ⟨[(.sub (.iv 0) (.il 1))], [], [(.vv 0), (.vv 1)], (Z [0, 1, 2, 3])⟩ [] = some (s1, [.ask (.le (.il 0) (.iv 0)), .ask (IB (.iv 0) (.vv 0)), .ask (IB (.iv 0) (.vv 1)), .ask (.not (.not (.eq (.toI (.get (.vv 0) (.iv 0))) (.toI (.get (.vv 1) (.iv 0)))))), .ask (FT (.sub (.iv 0) (.il 1)))]) := by kernel_rfl
theorem p6 : last K 110 13 [false] s1 = some ((.ofI (.il 0)), [.ask (.not (.le (.il 0) (.iv 0)))]) := by kernel_rfl
theorem b : sbegin prog 110 = some s0 := by kernel_rfl
end ref01_compare
end X
namespace X
open Go Go.Abs Go.Sym
namespace ref01_times
abbrev f : Nat := 111
noncomputable def K : Cfg := ⟨prog, pl, [], [109], []⟩
noncomputable def s0 : SMach := ⟨⟨111, 65, (m (.pure 3 (.vv 0) (q 0 0)) (l (.pure 3 (.vv 1) (q 1 0))) z z z), [.code (C 111 [])], [], .run, false, none⟩, [], ⟨0, 2, 2, z⟩⟩
noncomputable def s1 : SMach := ⟨⟨111, 65, (m (.pure 3 (.vv 0) (q 2 0)) (m (.pure 3 (.vv 1) (q 3 0)) (l (.view 0)) z z z) (n (l (.int .i64 (.iv 0))) z z z) z z), [.code (C 111 [1, 1, 0, 1, 0, 0]), .inLoop (C 111 [1, 1, 0, 1, 0, 0]), .inBlock 0, .code (C 111 [1, 1, 1])], [], .run, false, none⟩, [], ⟨1, 4, 3, (l (.arr 3 (.vv 2) 0))⟩⟩
noncomputable def s2 : SMach := ⟨⟨111, 65, (m (.pure 3 (.vv 0) (q 4 0)) (m (.pure 3 (.vv 1) (q 5 0)) (l (.view 0)) z z z) (n (l (.int .i64 (.iv 2))) z z z) (n (l (.int .i64 (.iv 0))) z z z) (n (l (.int .i64 (.iv 1))) z z z)), [.code (C 111 [1, 1, 0, 1, 0, 0, 1, 0, 0, 1, 1, 0, 0]), .inLoop (C 111 [1, 1, 0, 1, 0, 0, 1, 0, 0, 1, 1, 0, 0]), .inBlock 2, .inBlock 1, .code (C 111 [1, 1, 0, 1, 0, 0, 1, 1]), .inLoop (C 111 [1, 1, 0, 1, 0, 0]), .inBlock 0, .code (C 111 [1, 1, 1])], [], .run, false, none⟩, [], ⟨1, 6, 3, (l (.arr 3 (.vv 2) 0))⟩⟩
theorem p0 : stretch K 21 [] s0 s1 [] ⟨[(.il 0)], [], [(.vv 0), (.vv 1), (.rep (.add (.len (.vv 0)) (.len (.vv 1))) (.ofI (.il 0)))], (Z [0, 1, 0, 1])⟩ [(0, (some 0))] = some (s1, [.ask (FT (.add (.len (.vv 0)) (.len (.vv 1)))), .ask (.and (.le (.il 0) (.add (.len (.vv 0)) (.len (.vv 1)))) (.le (.add (.len (.vv 0)) (.len (.vv 1))) (.il 17592186044416)))]) := by kernel_rfl
theorem p1 : stretch K 22 [true] s1 s2 [] ⟨[(.il 0), (.il 0), (.iv 0)], [], [(.vv 0), (.vv 1), (.vv 2)], (Z [0, 1, 2, 3, 2, 3])⟩ [(0, (some 0))] = some (s2, [.ask (.lt (.iv 0) (.len (.vv 0)))]) := by kernel_rfl
theorem p2 : last K 111 17 [false] s1 = some ((.vv 3), [.ask (.not (.lt (.iv 0) (.len (.vv 0)))), .call 109 [(.vv 2)]]) := by kernel_rfl
theorem p3 : stretch K 74 [true, true] s2 s2 [] ⟨[(.quo (.add (.add (.iv 0) (.toI (.get (.vv 2) (.add (.iv 2) (.iv 1))))) (.mul (.toI (.get (.vv 0) (.iv 2))) (.toI (.get (.vv 1) (.iv 1))))) (.il 10000)), (.add (.iv 1) (.il 1)), (.iv 2)], [], [(.vv 0), (.vv 1), (.set (.vv 2) (.add (.iv 2) (.iv 1)) (.ofI (.rem (.add (.add (.iv 0) (.toI (.get (.vv 2) (.add (.iv 2) (.iv 1))))) (.mul (.toI (.get (.vv 0) (.iv 2))) (.toI (.get (.vv 1) (.iv 1))))) (.il 10000))))], (Z [0, 1, 2, 3, 4, 5])⟩ [(0, (some 0))] = some (s2, [.ask (.lt (.iv 1) (.len (.vv 1))), .ask (FT (.add (.iv 2) (.iv 1))), .ask (IB (.add (.iv 2) (.iv 1)) (.vv 2)), .ask (IB (.add (.iv 2) (.iv 1)) (.vv 2)), .ask (FT (.add (.iv 0) (.toI (.get (.vv 2) (.add (.iv 2) (.iv 1)))))), .ask (.lt (.iv 1) (.len (.vv 1))), .ask (IB (.iv 2) (.vv 0)), .ask (IB (.iv 1) (.vv 1)), .ask (FT (.mul (.toI (.get (.vv 0) (.iv 2))) (.toI (.get (.vv 1) (.iv 1))))), .ask (FT (.add (.add (.iv 0) (.toI (.get (.vv 2) (.add (.iv 2) (.iv 1))))) (.mul (.toI (.get (.vv 0) (.iv 2))) (.toI (.get (.vv 1) (.iv 1)))))), .ask (FT (.add (.iv 2) (.iv 1))), .ask (IB (.add (.iv 2) (.iv 1)) (.vv 2)), .ask (IB (.add (.iv 2) (.iv 1)) (.vv 2)), .ask (FT (.quo (.add (.add (.iv 0) (.toI (.get (.vv 2) (.add (.iv 2) (.iv 1))))) (.mul (.toI (.get (.vv 0) (.iv 2))) (.toI (.get (.vv 1) (.iv 1))))) (.il 10000))), .ask (FT (.add (.iv 1) (.il 1)))]) := by kernel_rfl
theorem p6 : stretch K 61 [false, true, false] s2 s2 [] ⟨[(.quo (.add (.iv 0) (.toI (.get (.vv 2) (.add (.iv 2) (.iv 1))))) (.il 10000)), (.add (.iv 1) (.il 1)), (.iv 2)], [], [(.vv 0), (.vv 1), (.set (.vv 2) (.add (.iv 2) (.iv 1)) (.ofI (.rem (.add (.iv 0) (.toI (.get (.vv 2) (.add (.iv 2) (.iv 1))))) (.il 10000))))], (Z [0, 1, 2, 3, 4, 5])⟩ [(0, (some 0))] = some (s2, [.ask (.not (.lt (.iv 1) (.len (.vv 1)))), .ask (.lt (.il 0) (.iv 0)), .ask (FT (.add (.iv 2) (.iv 1))), .ask (IB (.add (.iv 2) (.iv 1)) (.vv 2)), .ask (IB (.add (.iv 2) (.iv 1)) (.vv 2)), .ask (FT (.add (.iv 0) (.toI (.get (.vv 2) (.add (.iv 2) (.iv 1)))))), .ask (.not (.lt (.iv 1) (.len (.vv 1)))), .ask (FT (.add (.iv 2) (.iv 1))), .ask (IB (.add (.iv 2) (.iv 1)) (.vv 2)), .ask (IB (.add (.iv 2) (.iv 1)) (.vv 2)), .ask (FT (.quo (.add (.iv 0) (.toI (.get (.vv 2) (.add (.iv 2) (.iv 1))))) (.il 10000))), .ask (FT (.add (.iv 1) (.il 1)))]) := by kernel_rfl
theorem p7 : stretch K 21 [false, false] s2 s1 [] ⟨[(.add (.iv 2) (.il 1))], [], [(.vv 0), (.vv 1), (.vv 2)], (Z [0, 1, 4, 5])⟩ [(0, (some 0))] = some (s1, [.ask (.not (.lt (.iv 1) (.len (.vv 1)))), .ask (.not (.lt (.il 0) (.iv 0))), .ask (FT (.add (.iv 2) (.il 1)))]) := by kernel_rfl
theorem b : sbegin prog 111 = some s0 := by kernel_rfl
end ref01_times
end X
namespace X
open Go Go.Abs Go.Sym
namespace ref01_minus
abbrev f : Nat := 112
noncomputable def K : Cfg := ⟨prog, pl, [], [109], []⟩
noncomputable def s0 : SMach := ⟨⟨112, 41, (m (.pure 3 (.vv 0) (q 0 0)) (l (.pure 3 (.vv 1) (q 1 0))) z z z), [.code (C 112 [])], [], .run, false, none⟩, [], ⟨0, 2, 2, z⟩⟩
noncomputable def s1 : SMach := ⟨⟨112, 41, (m (.pure 3 (.vv 0) (q 2 0)) (m (.pure 3 (.vv 1) (q 3 0)) (l (.view 0)) z z z) (n (l (.int .i64 (.iv 0))) z z z) (n (l (.int .i64 (.iv 1))) z z z) z), [.code (C 112 [1, 1, 1, 0, 1, 0, 0]), .inLoop (C 112 [1, 1, 1, 0, 1, 0, 0]), .inBlock 0, .code (C 112 [1, 1, 1, 1])], [], .run, false, none⟩, [], ⟨1, 4, 3, (l (.arr 3 (.vv 2) 0))⟩⟩
theorem p0 : stretch K 19 [] s0 s1 [] ⟨[(.il 0), (.il 0)], [], [(.vv 0), (.vv 1), .nil], (Z [0, 1, 0, 1])⟩ [(0, none)] = some (s1, []) := by kernel_rfl
theorem p1 : stretch K 74 [true, true, true] s1 s1 [] ⟨[(.il 1), (.add (.iv 1) (.il 1))], [], [(.vv 0), (.vv 1), (.snoc (.vv 2) (.ofI (.add (.sub (.sub (.toI (.get (.vv 0) (.iv 1))) (.iv 0)) (.toI (.get (.vv 1) (.iv 1)))) (.il 10000))))], (Z [0, 1, 2, 3])⟩ [(0, (some 2))] = some (s1, [.ask (.lt (.iv 1) (.len (.vv 0))), .ask (IB (.iv 1) (.vv 0)), .ask (FT (.sub (.toI (.get (.vv 0) (.iv 1))) (.iv 0))), .ask (.lt (.iv 1) (.len (.vv 1))), .ask (IB (.iv 1) (.vv 1)), .ask (FT (.sub (.sub (.toI (.get (.vv 0) (.iv 1))) (.iv 0)) (.toI (.get (.vv 1) (.iv 1))))), .ask (.lt (.sub (.sub (.toI (.get (.vv 0) (.iv 1))) (.iv 0)) (.toI (.get (.vv 1) (.iv 1)))) (.il 0)), .ask (FT (.add (.sub (.sub (.toI (.get (.vv 0) (.iv 1))) (.iv 0)) (.toI (.get (.vv 1) (.iv 1)))) (.il 10000))), .ask (.le (.add (.len (.vv 2)) (.il 1)) (.il 8796093021696)), .ask (FT (.add (.iv 1) (.il 1)))]) := by kernel_rfl
theorem p2 : stretch K 66 [true, true, false] s1 s1 [] ⟨[(.il 0), (.add (.iv 1) (.il 1))], [], [(.vv 0), (.vv 1), (.snoc (.vv 2) (.ofI (.sub (.sub (.toI (.get (.vv 0) (.iv 1))) (.iv 0)) (.toI (.get (.vv 1) (.iv 1))))))], (Z [0, 1, 2, 3])⟩ [(0, (some 2))] = some (s1, [.ask (.lt (.iv 1) (.len (.vv 0))), .ask (IB (.iv 1) (.vv 0)), .ask (FT (.sub (.toI (.get (.vv 0) (.iv 1))) (.iv 0))), .ask (.lt (.iv 1) (.len (.vv 1))), .ask (IB (.iv 1) (.vv 1)), .ask (FT (.sub (.sub (.toI (.get (.vv 0) (.iv 1))) (.iv 0)) (.toI (.get (.vv 1) (.iv 1))))), .ask (.not (.lt (.sub (.sub (.toI (.get (.vv 0) (.iv 1))) (.iv 0)) (.toI (.get (.vv 1) (.iv 1)))) (.il 0))), .ask (.le (.add (.len (.vv 2)) (.il 1)) (.il 8796093021696)), .ask (FT (.add (.iv 1) (.il 1)))]) := by kernel_rfl
theorem p3 : stretch K 66 [true, false, true] s1 s1 [] ⟨[(.il 1), (.add (.iv 1) (.il 1))], [], [(.vv 0), (.vv 1), (.snoc (.vv 2) (.ofI (.add (.sub (.toI (.get (.vv 0) (.iv 1))) (.iv 0)) (.il 10000))))], (Z [0, 1, 2, 3])⟩ [(0, (some 2))] = some (s1, [.ask (.lt (.iv 1) (.len (.vv 0))), .ask (IB (.iv 1) (.vv 0)), .ask (FT (.sub (.toI (.get (.vv 0) (.iv 1))) (.iv 0))), .ask (.not (.lt (.iv 1) (.len (.vv 1)))), .ask (.lt (.sub (.toI (.get (.vv 0) (.iv 1))) (.iv 0)) (.il 0)), .ask (FT (.add (.sub (.toI (.get (.vv 0) (.iv 1))) (.iv 0)) (.il 10000))), .ask (.le (.add (.len (.vv 2)) (.il 1)) (.il 8796093021696)), .ask (FT (.add (.iv 1) (.il 1)))]) := by kernel_rfl
theorem p4 : stretch K 58 [true, false, false] s1 s1 [] ⟨[(.il 0), (.add (.iv 1) (.il 1))], [], [(.vv 0), (.vv 1), (.snoc (.vv 2) (.ofI (.sub (.toI (.get (.vv 0) (.iv 1))) (.iv 0))))], (Z [0, 1, 2, 3])⟩ [(0, (some 2))] = some (s1, [.ask (.lt (.iv 1) (.len (.vv 0))), .ask (IB (.iv 1) (.vv 0)), .ask (FT (.sub (.toI (.get (.vv 0) (.iv 1))) (.iv 0))), .ask (.not (.lt (.iv 1) (.len (.vv 1)))), .ask (.not (.lt (.sub (.toI (.get (.vv 0) (.iv 1))) (.iv 0)) (.il 0))), .ask (.le (.add (.len (.vv 2)) (.il 1)) (.il 8796093021696)), .ask (FT (.add (.iv 1) (.il 1)))]) := by kernel_rfl
theorem p5 : last K 112 17 [false] s1 = some ((.vv 3), [.ask (.not (.lt (.iv 1) (.len (.vv 0)))), .call 109 [(.vv 2)]]) := by kernel_rfl
theorem b : sbegin prog 112 = some s0 := by kernel_rfl
end ref01_minus
end X
namespace X
open Go Go.Abs Go.Sym
namespace ref01_divide
abbrev f : Nat := 102
noncomputable def K : Cfg := ⟨prog, pl, [], [109, 110, 111, 112], []⟩
noncomputable def s0 : SMach := ⟨⟨102, 124, (m (.pure 3 (.vv 0) (q 0 0)) (l (.pure 3 (.vv 1) (q 1 0))) z z z), [.code (C 102 [])], [], .run, false, none⟩, [], ⟨0, 2, 2, z⟩⟩
noncomputable def s1 : SMach := ⟨⟨102, 124, (m (.pure 3 (.vv 0) (q 2 0)) (m (.pure 3 (.vv 1) (q 3 0)) z (l (.int .i64 (.iv 0))) z z) (n (l (.int .i64 (.sub (.len (.vv 1)) (.il 1)))) z z z) (n (l (.view 0)) z z z) (n (l (.pure 3 (.vv 3) (q 4 0))) z z z)), [.code (C 102 [1, 1, 1, 1, 1, 0, 1, 0, 0]), .inLoop (C 102 [1, 1, 1, 1, 1, 0, 1, 0, 0]), .inBlock 0, .code (C 102 [1, 1, 1, 1, 1, 1])], [], .run, false, none⟩, [], ⟨3, 5, 4, (l (.arr 3 (.vv 2) 0))⟩⟩
noncomputable def s2 : SMach := ⟨⟨102, 124, (m (.pure 3 (.vv 0) (q 6 0)) (m (.pure 3 (.vv 1) (q 7 0)) z (l (.int .i64 (.iv 3))) z z) (n (l (.int .i64 (.sub (.len (.vv 1)) (.il 1)))) (l (.int .i64 (.iv 0))) z z) (n (l (.view 0)) (l (.int .i64 (.iv 1))) z z) (n (l (.pure 3 (.vv 4) (q 8 0))) (l (.int .i64 (.iv 2))) z z)), [.code (C 102 [1, 1, 1, 1, 1, 0, 1, 0, 0, 1, 0, 0, 1, 1, 0, 1, 0, 0]), .inLoop (C 102 [1, 1, 1, 1, 1, 0, 1, 0, 0, 1, 0, 0, 1, 1, 0, 1, 0, 0]), .inBlock 2, .code (C 102 [1, 1, 1, 1, 1, 0, 1, 0, 0, 1, 0, 0, 1, 1, 1]), .inBlock 1, .code (C 102 [1, 1, 1, 1, 1, 0, 1, 0, 0, 1, 1]), .inLoop (C 102 [1, 1, 1, 1, 1, 0, 1, 0, 0]), .inBlock 0, .code (C 102 [1, 1, 1, 1, 1, 1])], [], .run, false, none⟩, [], ⟨5, 9, 5, (l (.arr 3 (.vv 3) 0))⟩⟩
noncomputable def s3 : SMach := ⟨⟨102, 124, (m (.pure 3 (.vv 0) (q 9 0)) (m (.pure 3 (.vv 1) (q 10 0)) (n (n (l (.int .i64 (.iv 2))) z z z) z z z) (m (.int .i64 (.iv 9)) (n (l (.int .i64 (.iv 6))) z z z) z z z) (l (.int .i64 (.iv 0))) z) (n (m (.int .i64 (.sub (.len (.vv 1)) (.il 1))) (n (l (.int .i64 (.iv 3))) z z z) z z z) (n (n (l (.int .i64 (.iv 7))) z z z) z z z) (l (.int .i64 (.iv 1))) z) (n (m (.view 0) (n (l (.int .i64 (.iv 4))) z z z) z z z) (n (n (l (.int .i64 (.iv 8))) z z z) z z z) z z) (n (m (.pure 3 (.vv 4) (q 11 0)) (n (l (.int .i64 (.iv 5))) z z z) z z z) z z z)), [.code (C 102 [1, 1, 1, 1, 1, 0, 1, 0, 0, 1, 0, 0, 1, 1, 1, 1, 0, 0, 0]), .inLoop (C 102 [1, 1, 1, 1, 1, 0, 1, 0, 0, 1, 0, 0, 1, 1, 1, 1, 0, 0, 0]), .inBlock 4, .code (C 102 [1, 1, 1, 1, 1, 0, 1, 0, 0, 1, 0, 0, 1, 1, 1, 1, 1]), .inBlock 1, .code (C 102 [1, 1, 1, 1, 1, 0, 1, 0, 0, 1, 1]), .inLoop (C 102 [1, 1, 1, 1, 1, 0, 1, 0, 0]), .inBlock 0, .code (C 102 [1, 1, 1, 1, 1, 1])], [], .run, false, none⟩, [], ⟨5, 12, 5, (l (.arr 3 (.vv 3) 0))⟩⟩
theorem p0 : last K 102 30 [true] s0 = some ((.snoc (.snoc .emp .nil) (.app .emp (.vv 0))), [.ask (FT (.sub (.len (.vv 1)) (.il 1))), .ask (.le (.len (.vv 0)) (.sub (.len (.vv 1)) (.il 1))), .ask (.le (.add (.il 0) (.len (.vv 0))) (.il 8796093021696))]) := by kernel_rfl
theorem p1 : stretch K 53 [false] s0 s1 [2] ⟨[(.sub (.len (.rep (.sub (.len (.vv 0)) (.sub (.len (.vv 1)) (.il 1))) (.ofI (.il 0)))) (.il 1))], [], [(.vv 0), (.vv 1), (.rep (.sub (.len (.vv 0)) (.sub (.len (.vv 1)) (.il 1))) (.ofI (.il 0))), (.app .emp (.cut (.vv 0) (.sub (.len (.vv 0)) (.sub (.len (.vv 1)) (.il 1))) (.len (.vv 0))))], (Z [0, 1, 0, 1, 2])⟩ [(0, (some 0))] = some (s1, [.ask (FT (.sub (.len (.vv 1)) (.il 1))), .ask (.not (.le (.len (.vv 0)) (.sub (.len (.vv 1)) (.il 1)))), .ask (FT (.sub (.len (.vv 0)) (.sub (.len (.vv 1)) (.il 1)))), .ask (.and (.le (.il 0) (.sub (.len (.vv 0)) (.sub (.len (.vv 1)) (.il 1)))) (.le (.sub (.len (.vv 0)) (.sub (.len (.vv 1)) (.il 1))) (.il 17592186044416))), .ask (FT (.sub (.len (.vv 0)) (.sub (.len (.vv 1)) (.il 1)))), .ask (.and (.le (.il 0) (.sub (.len (.vv 0)) (.sub (.len (.vv 1)) (.il 1)))) (.le (.sub (.len (.vv 0)) (.sub (.len (.vv 1)) (.il 1))) (.len (.vv 0)))), .ask (.le (.len (.vv 0)) (.len (.vv 0))), .ask (.le (.add (.il 0) (.len (.cut (.vv 0) (.sub (.len (.vv 0)) (.sub (.len (.vv 1)) (.il 1))) (.len (.vv 0))))) (.il 8796093021696)), .ask (FT (.sub (.len (.rep (.sub (.len (.vv 0)) (.sub (.len (.vv 1)) (.il 1))) (.ofI (.il 0)))) (.il 1)))]) := by kernel_rfl
theorem p2 : stretch K 36 [true] s1 s2 [] ⟨[(.il 0), (.il 0), (.add (.sub (.len (.vv 1)) (.il 1)) (.il 1)), (.iv 0)], [], [(.vv 0), (.vv 1), (.vv 2), (.vv 2), (.vv 4)], (Z [0, 1, 2, 3, 4, 5, 2, 3, 6])⟩ [(0, (some 0))] = some (s2, [.ask (.le (.il 0) (.iv 0)), .ask (IB (.iv 0) (.vv 0)), .ask (.le (.add (.il 1) (.len (.vv 3))) (.il 8796093021696)), .call 109 [(.app (.snoc .emp (.ofI (.toI (.get (.vv 0) (.iv 0))))) (.vv 3))], .ask (FT (.add (.sub (.len (.vv 1)) (.il 1)) (.il 1)))]) := by kernel_rfl
theorem p3 : last K 102 17 [false] s1 = some ((.snoc (.snoc .emp (.vv 4)) (.vv 3)), [.ask (.not (.le (.il 0) (.iv 0))), .call 109 [(.vv 2)]]) := by kernel_rfl
theorem p4 : stretch K 61 [true, true, true] s2 s2 [] ⟨[(.add (.mul (.iv 0) (.il 10000)) (.toI (.get (.vv 1) (.iv 2)))), (.add (.mul (.iv 1) (.il 10000)) (.toI (.get (.vv 4) (.iv 2)))), (.sub (.iv 2) (.il 1)), (.iv 3)], [], [(.vv 0), (.vv 1), (.vv 2), (.vv 3), (.vv 4)], (Z [0, 1, 2, 3, 4, 5, 6, 7, 8])⟩ [(0, (some 0))] = some (s2, [.ask (FT (.sub (.sub (.len (.vv 1)) (.il 1)) (.il 1))), .ask (.le (.max (.il 0) (.sub (.sub (.len (.vv 1)) (.il 1)) (.il 1))) (.iv 2)), .ask (FT (.mul (.iv 1) (.il 10000))), .ask (.lt (.iv 2) (.len (.vv 4))), .ask (IB (.iv 2) (.vv 4)), .ask (FT (.add (.mul (.iv 1) (.il 10000)) (.toI (.get (.vv 4) (.iv 2))))), .ask (.le (.iv 2) (.sub (.len (.vv 1)) (.il 1))), .ask (FT (.mul (.iv 0) (.il 10000))), .ask (IB (.iv 2) (.vv 1)), .ask (FT (.add (.mul (.iv 0) (.il 10000)) (.toI (.get (.vv 1) (.iv 2))))), .ask (FT (.sub (.iv 2) (.il 1)))]) := by kernel_rfl
theorem p5 : stretch K 52 [true, true, false] s2 s2 [] ⟨[(.iv 0), (.add (.mul (.iv 1) (.il 10000)) (.toI (.get (.vv 4) (.iv 2)))), (.sub (.iv 2) (.il 1)), (.iv 3)], [], [(.vv 0), (.vv 1), (.vv 2), (.vv 3), (.vv 4)], (Z [0, 1, 2, 3, 4, 5, 6, 7, 8])⟩ [(0, (some 0))] = some (s2, [.ask (FT (.sub (.sub (.len (.vv 1)) (.il 1)) (.il 1))), .ask (.le (.max (.il 0) (.sub (.sub (.len (.vv 1)) (.il 1)) (.il 1))) (.iv 2)), .ask (FT (.mul (.iv 1) (.il 10000))), .ask (.lt (.iv 2) (.len (.vv 4))), .ask (IB (.iv 2) (.vv 4)), .ask (FT (.add (.mul (.iv 1) (.il 10000)) (.toI (.get (.vv 4) (.iv 2))))), .ask (.not (.le (.iv 2) (.sub (.len (.vv 1)) (.il 1)))), .ask (FT (.sub (.iv 2) (.il 1)))]) := by kernel_rfl
theorem p6 : stretch K 53 [true, false, true] s2 s2 [] ⟨[(.add (.mul (.iv 0) (.il 10000)) (.toI (.get (.vv 1) (.iv 2)))), (.mul (.iv 1) (.il 10000)), (.sub (.iv 2) (.il 1)), (.iv 3)], [], [(.vv 0), (.vv 1), (.vv 2), (.vv 3), (.vv 4)], (Z [0, 1, 2, 3, 4, 5, 6, 7, 8])⟩ [(0, (some 0))] = some (s2, [.ask (FT (.sub (.sub (.len (.vv 1)) (.il 1)) (.il 1))), .ask (.le (.max (.il 0) (.sub (.sub (.len (.vv 1)) (.il 1)) (.il 1))) (.iv 2)), .ask (FT (.mul (.iv 1) (.il 10000))), .ask (.not (.lt (.iv 2) (.len (.vv 4)))), .ask (.le (.iv 2) (.sub (.len (.vv 1)) (.il 1))), .ask (FT (.mul (.iv 0) (.il 10000))), .ask (IB (.iv 2) (.vv 1)), .ask (FT (.add (.mul (.iv 0) (.il 10000)) (.toI (.get (.vv 1) (.iv 2))))), .ask (FT (.sub (.iv 2) (.il 1)))]) := by kernel_rfl
theorem p7 : stretch K 44 [true, false, false] s2 s2 [] ⟨[(.iv 0), (.mul (.iv 1) (.il 10000)), (.sub (.iv 2) (.il 1)), (.iv 3)], [], [(.vv 0), (.vv 1), (.vv 2), (.vv 3), (.vv 4)], (Z [0, 1, 2, 3, 4, 5, 6, 7, 8])⟩ [(0, (some 0))] = some (s2, [.ask (FT (.sub (.sub (.len (.vv 1)) (.il 1)) (.il 1))), .ask (.le (.max (.il 0) (.sub (.sub (.len (.vv 1)) (.il 1)) (.il 1))) (.iv 2)), .ask (FT (.mul (.iv 1) (.il 10000))), .ask (.not (.lt (.iv 2) (.len (.vv 4)))), .ask (.not (.le (.iv 2) (.sub (.len (.vv 1)) (.il 1)))), .ask (FT (.sub (.iv 2) (.il 1)))]) := by kernel_rfl
theorem p8 : stretch K 26 [false] s2 s3 [] ⟨[(.quo (.iv 1) (.add (.iv 0) (.il 1))), (.quo (.iv 1) (.iv 0)), (.iv 1), (.iv 0), (.add (.iv 0) (.il 1)), (.quo (.iv 1) (.add (.iv 0) (.il 1))), (.iv 1), (.iv 0), (.quo (.iv 1) (.iv 0)), (.iv 3)], [], [(.vv 0), (.vv 1), (.vv 2), (.vv 3), (.vv 4)], (Z [0, 1, 2, 3, 4, 5, 6, 7, 8, 6, 7, 8])⟩ [(0, (some 0))] = some (s3, [.ask (FT (.sub (.sub (.len (.vv 1)) (.il 1)) (.il 1))), .ask (.not (.le (.max (.il 0) (.sub (.sub (.len (.vv 1)) (.il 1)) (.il 1))) (.iv 2))), .ask (FT (.add (.iv 0) (.il 1))), .ask (.not (.eq (.add (.iv 0) (.il 1)) (.il 0))), .ask (FT (.quo (.iv 1) (.add (.iv 0) (.il 1)))), .ask (.not (.eq (.iv 0) (.il 0))), .ask (FT (.quo (.iv 1) (.iv 0)))]) := by kernel_rfl
theorem p9 : stretch K 36 [true, true] s3 s3 [] ⟨[(.quo (.add (.add (.iv 0) (.iv 1)) (.il 1)) (.il 2)), (.iv 1), (.iv 2), (.iv 3), (.iv 4), (.iv 5), (.iv 6), (.iv 7), (.iv 8), (.iv 9)], [], [(.vv 0), (.vv 1), (.vv 2), (.vv 3), (.vv 4)], (Z [0, 1, 2, 3, 4, 5, 6, 7, 8, 9, 10, 11])⟩ [(0, (some 0))] = some (s3, [.ask (.lt (.iv 0) (.iv 1)), .ask (FT (.add (.iv 0) (.iv 1))), .ask (FT (.add (.add (.iv 0) (.iv 1)) (.il 1))), .ask (FT (.quo (.add (.add (.iv 0) (.iv 1)) (.il 1)) (.il 2))), .call 111 [(.vv 1), (.snoc .emp (.ofI (.quo (.add (.add (.iv 0) (.iv 1)) (.il 1)) (.il 2))))], .call 110 [(.vv 5), (.vv 4)], .ask (.le (.toI (.vv 6)) (.il 0))]) := by kernel_rfl
theorem p10 : stretch K 37 [true, false] s3 s3 [] ⟨[(.iv 0), (.sub (.quo (.add (.add (.iv 0) (.iv 1)) (.il 1)) (.il 2)) (.il 1)), (.iv 2), (.iv 3), (.iv 4), (.iv 5), (.iv 6), (.iv 7), (.iv 8), (.iv 9)], [], [(.vv 0), (.vv 1), (.vv 2), (.vv 3), (.vv 4)], (Z [0, 1, 2, 3, 4, 5, 6, 7, 8, 9, 10, 11])⟩ [(0, (some 0))] = some (s3, [.ask (.lt (.iv 0) (.iv 1)), .ask (FT (.add (.iv 0) (.iv 1))), .ask (FT (.add (.add (.iv 0) (.iv 1)) (.il 1))), .ask (FT (.quo (.add (.add (.iv 0) (.iv 1)) (.il 1)) (.il 2))), .call 111 [(.vv 1), (.snoc .emp (.ofI (.quo (.add (.add (.iv 0) (.iv 1)) (.il 1)) (.il 2))))], .call 110 [(.vv 5), (.vv 4)], .ask (.not (.le (.toI (.vv 6)) (.il 0))), .ask (FT (.sub (.quo (.add (.add (.iv 0) (.iv 1)) (.il 1)) (.il 2)) (.il 1)))]) := by kernel_rfl
theorem p11 : stretch K 34 [false] s3 s1 [] ⟨[(.sub (.iv 9) (.il 1))], [], [(.vv 0), (.vv 1), (.set (.vv 3) (.iv 9) (.ofI (.iv 0))), (.vv 7)], (Z [0, 1, 9, 10, 15])⟩ [(0, (some 0))] = some (s1, [.ask (.not (.lt (.iv 0) (.iv 1))), .ask (IB (.iv 9) (.vv 3)), .ask (IB (.iv 9) (.vv 3)), .call 109 [(.snoc .emp (.ofI (.iv 0)))], .call 111 [(.vv 1), (.vv 5)], .call 112 [(.vv 4), (.vv 6)], .ask (FT (.sub (.iv 9) (.il 1)))]) := by kernel_rfl
theorem b : sbegin prog 102 = some s0 := by kernel_rfl
end ref01_divide
end X
namespace X
open Go Go.Abs Go.Sym
namespace ref01_gcd
abbrev f : Nat := 101
noncomputable def K : Cfg := ⟨prog, pl, [], [102], []⟩
noncomputable def s0 : SMach := ⟨⟨101, 19, (m (.pure 3 (.vv 0) (q 0 0)) (l (.pure 3 (.vv 1) (q 1 0))) z z z), [.code (C 101 [])], [], .run, false, none⟩, [], ⟨0, 2, 2, z⟩⟩
noncomputable def s1 : SMach := ⟨⟨101, 19, (m (.pure 3 (.vv 2) (q 2 0)) (l (.pure 3 (.vv 3) (q 3 0))) z z z), [.code (C 101 [1, 0, 0, 0]), .inLoop (C 101 [1, 0, 0, 0]), .inBlock 0, .code (C 101 [1, 1])], [], .run, false, none⟩, [], ⟨0, 4, 4, z⟩⟩
theorem p0 : stretch K 7 [] s0 s1 [] ⟨[], [], [(.vv 0), (.vv 1), (.vv 0), (.vv 1)], (Z [0, 1, 0, 1])⟩ [] = some (s1, []) := by kernel_rfl
theorem p1 : stretch K 32 [true] s1 s1 [] ⟨[], [], [(.vv 0), (.vv 1), (.vv 3), (.get (.vv 4) (.il 1))], [(q 0 0), (q 1 0), (q 3 0), (q 4 1)]⟩ [] = some (s1, [.ask (.lt (.il 0) (.len (.vv 3))), .call 102 [(.vv 2), (.vv 3)]]) := by kernel_rfl
theorem p2 : last K 101 15 [false] s1 = some ((.vv 2), [.ask (.not (.lt (.il 0) (.len (.vv 3))))]) := by kernel_rfl
theorem b : sbegin prog 101 = some s0 := by kernel_rfl
end ref01_gcd
end X
namespace X
open Go Go.Abs Go.Sym
namespace ref01_value
abbrev f : Nat := 103
noncomputable def K : Cfg := ⟨prog, pl, [], [93, 110], []⟩
noncomputable def s0 : SMach := ⟨⟨103, 25, (l (.pure 3 (.vv 0) (q 0 0))), [.code (C 103 [])], [], .run, false, none⟩, [], ⟨0, 1, 1, z⟩⟩
noncomputable def s1 : SMach := ⟨⟨103, 25, (m (.pure 3 (.vv 0) (q 3 0)) (n (l (.int .i64 (.iv 1))) z z z) z z (l (.int .i64 (.iv 0)))), [.code (C 103 [1, 1, 1, 0, 1, 0, 0]), .inLoop (C 103 [1, 1, 1, 0, 1, 0, 0]), .inBlock 0, .code (C 103 [1, 1, 1, 1])], [], .run, false, none⟩, [], ⟨0, 4, 3, z⟩⟩
theorem p0 : last K 103 20 [true] s0 = some ((.snoc (.snoc .emp (.ofI (.il 0))) (.ofB (.bl false))), [.call 93 [(.ofI (.il 4611686018427387903))], .call 110 [(.vv 0), (.vv 1)], .ask (.lt (.il 0) (.toI (.vv 2)))]) := by kernel_rfl
theorem p1 : stretch K 29 [false] s0 s1 [] ⟨[(.il 0), (.sub (.len (.vv 0)) (.il 1))], [], [(.vv 0), (.vv 1), (.vv 2)], (Z [0, 1, 2, 0])⟩ [] = some (s1, [.call 93 [(.ofI (.il 4611686018427387903))], .call 110 [(.vv 0), (.vv 1)], .ask (.not (.lt (.il 0) (.toI (.vv 2)))), .ask (FT (.sub (.len (.vv 0)) (.il 1)))]) := by kernel_rfl
theorem p2 : stretch K 27 [true] s1 s1 [] ⟨[(.add (.mul (.il 10000) (.iv 0)) (.toI (.get (.vv 0) (.iv 1)))), (.sub (.iv 1) (.il 1))], [], [(.vv 0), (.vv 1), (.vv 2)], (Z [0, 1, 2, 3])⟩ [] = some (s1, [.ask (.le (.il 0) (.iv 1)), .ask (FT (.mul (.il 10000) (.iv 0))), .ask (IB (.iv 1) (.vv 0)), .ask (FT (.add (.mul (.il 10000) (.iv 0)) (.toI (.get (.vv 0) (.iv 1))))), .ask (FT (.sub (.iv 1) (.il 1)))]) := by kernel_rfl
theorem p3 : last K 103 15 [false] s1 = some ((.snoc (.snoc .emp (.ofI (.iv 0))) (.ofB (.bl true))), [.ask (.not (.le (.il 0) (.iv 1)))]) := by kernel_rfl
theorem b : sbegin prog 103 = some s0 := by kernel_rfl
end ref01_value
end X
namespace X
open Go Go.Abs Go.Sym
namespace ref01_made
abbrev f : Nat := 92
noncomputable def K : Cfg := ⟨prog, pl, [], [101, 102, 103], []⟩
noncomputable def s0 : SMach := ⟨⟨92, 51, (m (.bool (.toB (.vv 0))) (l (.pure 3 (.vv 1) (q 1 0))) (l (.pure 3 (.vv 2) (q 2 0))) z z), [.code (C 92 [])], [], .run, false, none⟩, [], ⟨0, 3, 3, z⟩⟩
theorem p0 : last K 92 70 [true] s0 = some ((.snoc (.snoc .emp (.snoc (.snoc .emp (.ofI (.il 0))) (.ofI (.il 0)))) (.ofB (.bl false))), [.call 101 [(.vv 1), (.vv 2)], .call 102 [(.vv 1), (.vv 3)], .call 102 [(.vv 2), (.vv 3)], .call 103 [(.get (.vv 4) (.il 0))], .call 103 [(.get (.vv 5) (.il 0))], .ask (.not (.toB (.get (.vv 6) (.il 1))))]) := by kernel_rfl
theorem p1 : last K 92 70 [false, true] s0 = some ((.snoc (.snoc .emp (.snoc (.snoc .emp (.ofI (.il 0))) (.ofI (.il 0)))) (.ofB (.bl false))), [.call 101 [(.vv 1), (.vv 2)], .call 102 [(.vv 1), (.vv 3)], .call 102 [(.vv 2), (.vv 3)], .call 103 [(.get (.vv 4) (.il 0))], .call 103 [(.get (.vv 5) (.il 0))], .ask (.not (.not (.toB (.get (.vv 6) (.il 1))))), .ask (.not (.toB (.get (.vv 7) (.il 1))))]) := by kernel_rfl
theorem p2 : last K 92 84 [false, false, true] s0 = some ((.snoc (.snoc .emp (.snoc (.snoc .emp (.ofI (.sub (.il 0) (.toI (.get (.vv 6) (.il 0)))))) (.ofI (.toI (.get (.vv 7) (.il 0)))))) (.ofB (.bl true))), [.call 101 [(.vv 1), (.vv 2)], .call 102 [(.vv 1), (.vv 3)], .call 102 [(.vv 2), (.vv 3)], .call 103 [(.get (.vv 4) (.il 0))], .call 103 [(.get (.vv 5) (.il 0))], .ask (.not (.not (.toB (.get (.vv 6) (.il 1))))), .ask (.not (.not (.toB (.get (.vv 7) (.il 1))))), .ask (.toB (.vv 0)), .ask (FT (.sub (.il 0) (.toI (.get (.vv 6) (.il 0)))))]) := by kernel_rfl
theorem p3 : last K 92 80 [false, false, false] s0 = some ((.snoc (.snoc .emp (.snoc (.snoc .emp (.ofI (.toI (.get (.vv 6) (.il 0))))) (.ofI (.toI (.get (.vv 7) (.il 0)))))) (.ofB (.bl true))), [.call 101 [(.vv 1), (.vv 2)], .call 102 [(.vv 1), (.vv 3)], .call 102 [(.vv 2), (.vv 3)], .call 103 [(.get (.vv 4) (.il 0))], .call 103 [(.get (.vv 5) (.il 0))], .ask (.not (.not (.toB (.get (.vv 6) (.il 1))))), .ask (.not (.not (.toB (.get (.vv 7) (.il 1))))), .ask (.not (.toB (.vv 0)))]) := by kernel_rfl
theorem b : sbegin prog 92 = some s0 := by kernel_rfl
end ref01_made
end X
namespace X
open Go Go.Abs Go.Sym
namespace ref01_Make
abbrev f : Nat := 72
noncomputable def K : Cfg := ⟨prog, pl, [], [92, 93], []⟩
noncomputable def s0 : SMach := ⟨⟨72, 18, (m (.int .i64 (.toI (.vv 0))) (l (.int .i64 (.toI (.vv 1)))) z z z), [.code (C 72 [])], [], .run, false, none⟩, [], ⟨0, 2, 2, z⟩⟩
theorem p0 : last K 72 23 [] s0 = some ((.snoc (.snoc .emp (.snoc (.snoc .emp (.ofI (.toI (.get (.get (.vv 4) (.il 0)) (.il 0))))) (.ofI (.toI (.get (.get (.vv 4) (.il 0)) (.il 1)))))) (.ofB (.toB (.get (.vv 4) (.il 1))))), [.call 93 [(.ofI (.toI (.vv 0)))], .call 93 [(.ofI (.toI (.vv 1)))], .call 92 [(.ofB (.not (.beq (.lt (.toI (.vv 0)) (.il 0)) (.lt (.toI (.vv 1)) (.il 0))))), (.vv 2), (.vv 3)]]) := by kernel_rfl
theorem b : sbegin prog 72 = some s0 := by kernel_rfl
end ref01_Make
end X
namespace X
open Go Go.Abs Go.Sym
namespace ref01_Of
abbrev f : Nat := 34
noncomputable def K : Cfg := ⟨prog, pl, [], [72], []⟩
noncomputable def s0 : SMach := ⟨⟨34, 14, (m (.int .i64 (.toI (.vv 0))) (l (.int .i64 (.toI (.vv 1)))) z z z), [.code (C 34 [])], [], .run, false, none⟩, [], ⟨0, 2, 2, z⟩⟩
theorem p0 : last K 34 22 [] s0 = some ((.snoc (.snoc .emp (.ofI (.toI (.get (.get (.vv 2) (.il 0)) (.il 0))))) (.ofI (.toI (.get (.get (.vv 2) (.il 0)) (.il 1))))), [.call 72 [(.ofI (.toI (.vv 0))), (.ofI (.toI (.vv 1)))]]) := by kernel_rfl
theorem b : sbegin prog 34 = some s0 := by kernel_rfl
end ref01_Of
end X
namespace X
open Go Go.Abs Go.Sym
namespace frac_Make
abbrev f : Nat := 66
noncomputable def K : Cfg := ⟨prog, pl, [], [86, 87], []⟩
noncomputable def s0 : SMach := ⟨⟨66, 19, (m (.int .i64 (.toI (.vv 0))) (l (.int .i64 (.toI (.vv 1)))) z z z), [.code (C 66 [])], [], .run, false, none⟩, [], ⟨0, 2, 2, z⟩⟩
theorem p4 : last K 66 207 [false, true, false, false, false] s0 = some ((.snoc (.snoc .emp (.snoc (.snoc .emp (.ofI (.quo (.toI (.vv 5)) (.toI (.vv 4))))) (.ofI (.quo (.toI (.vv 6)) (.toI (.vv 4)))))) (.ofI (.il 0))), [.ask (.not (.eq (.toI (.vv 1)) (.il 0))), .call 87 [(.ofI (.toI (.vv 0)))], .call 87 [(.ofI (.toI (.vv 1)))], .call 86 [(.ofI (.toI (.vv 2))), (.ofI (.toI (.vv 3)))], .ask (.not (.eq (.toI (.vv 0)) (.il 0))), .call 87 [(.ofI (.toI (.vv 0)))], .ask (.not (.eq (.toI (.vv 4)) (.il 0))), .ask (.and (.le (.il 0) (.quo (.toI (.vv 5)) (.toI (.vv 4)))) (.le (.quo (.toI (.vv 5)) (.toI (.vv 4))) (.il 18446744073709551615))), .call 87 [(.ofI (.toI (.vv 1)))], .ask (.not (.eq (.toI (.vv 4)) (.il 0))), .ask (.and (.le (.il 0) (.quo (.toI (.vv 6)) (.toI (.vv 4)))) (.le (.quo (.toI (.vv 6)) (.toI (.vv 4))) (.il 18446744073709551615))), .ask (.not (.lt (.il 4611686018427387903) (.quo (.toI (.vv 5)) (.toI (.vv 4))))), .ask (.not (.lt (.il 4611686018427387903) (.quo (.toI (.vv 6)) (.toI (.vv 4))))), .ask (.not (.not (.beq (.lt (.toI (.vv 0)) (.il 0)) (.lt (.toI (.vv 1)) (.il 0))))), .ask (FT (.quo (.toI (.vv 5)) (.toI (.vv 4)))), .ask (FT (.quo (.toI (.vv 6)) (.toI (.vv 4))))]) := by kernel_rfl
theorem p7 : last K 66 207 [false, false, false, false] s0 = some ((.snoc (.snoc .emp (.snoc (.snoc .emp (.ofI (.quo (.toI (.vv 5)) (.toI (.vv 4))))) (.ofI (.quo (.toI (.vv 6)) (.toI (.vv 4)))))) (.ofI (.il 0))), [.ask (.not (.eq (.toI (.vv 1)) (.il 0))), .call 87 [(.ofI (.toI (.vv 0)))], .call 87 [(.ofI (.toI (.vv 1)))], .call 86 [(.ofI (.toI (.vv 2))), (.ofI (.toI (.vv 3)))], .ask (.not (.not (.eq (.toI (.vv 0)) (.il 0)))), .call 87 [(.ofI (.toI (.vv 0)))], .ask (.not (.eq (.toI (.vv 4)) (.il 0))), .ask (.and (.le (.il 0) (.quo (.toI (.vv 5)) (.toI (.vv 4)))) (.le (.quo (.toI (.vv 5)) (.toI (.vv 4))) (.il 18446744073709551615))), .call 87 [(.ofI (.toI (.vv 1)))], .ask (.not (.eq (.toI (.vv 4)) (.il 0))), .ask (.and (.le (.il 0) (.quo (.toI (.vv 6)) (.toI (.vv 4)))) (.le (.quo (.toI (.vv 6)) (.toI (.vv 4))) (.il 18446744073709551615))), .ask (.not (.lt (.il 4611686018427387903) (.quo (.toI (.vv 5)) (.toI (.vv 4))))), .ask (.not (.lt (.il 4611686018427387903) (.quo (.toI (.vv 6)) (.toI (.vv 4))))), .ask (FT (.quo (.toI (.vv 5)) (.toI (.vv 4)))), .ask (FT (.quo (.toI (.vv 6)) (.toI (.vv 4))))]) := by kernel_rfl
theorem b : sbegin prog 66 = some s0 := by kernel_rfl
end frac_Make
end X
namespace X
open Go Go.Abs Go.Sym
namespace Split17
abbrev f : Nat := 63
noncomputable def K : Cfg := ⟨prog, pl, [], [], []⟩
noncomputable def s0 : SMach := ⟨⟨63, 42, (m (.int .i64 (.toI (.vv 0))) (l (.int .i64 (.toI (.vv 1)))) (l (.pure 5 (.vv 2) (q 2 0))) z z), [.code (C 63 [])], [], .run, false, none⟩, [], ⟨0, 3, 3, z⟩⟩
noncomputable def s1 : SMach := ⟨⟨63, 42, (m (.int .i64 (.toI (.vv 0))) (n z (l (.int .i64 (.iv 1))) z z) (l (.pure 5 (.vv 2) (q 3 0))) (n (l (.view 0)) z z z) (n (l (.int .i64 (.iv 0))) z z z)), [.code (C 63 [1, 1, 1, 0, 1, 0, 0]), .inLoop (C 63 [1, 1, 1, 0, 1, 0, 0]), .inBlock 0, .code (C 63 [1, 1, 1, 1])], [], .run, false, none⟩, [], ⟨1, 4, 4, (l (.arr 3 (.vv 3) 0))⟩⟩
theorem p0 : stretch K 20 [] s0 s1 [] ⟨[(.toI (.vv 1)), (.il 0)], [], [(.vv 0), (.vv 1), (.vv 2), .nil], (Z [0, 1, 2, 2])⟩ [(0, none)] = some (s1, []) := by kernel_rfl
theorem p1 : stretch K 69 [true, true, true] s1 s1 [] ⟨[(.sub (.iv 0) (.rem (.toI (.get (.vv 2) (.iv 1))) (.add (.iv 0) (.il 1)))), (.add (.iv 1) (.il 1))], [], [(.vv 0), (.vv 1), (.vv 2), (.snoc (.vv 3) (.ofI (.rem (.toI (.get (.vv 2) (.iv 1))) (.add (.iv 0) (.il 1)))))], (Z [0, 1, 2, 3])⟩ [(0, (some 2))] = some (s1, [.ask (.lt (.iv 1) (.toI (.vv 0))), .ask (FT (.sub (.toI (.vv 0)) (.il 1))), .ask (.lt (.iv 1) (.sub (.toI (.vv 0)) (.il 1))), .ask (.lt (.iv 1) (.len (.vv 2))), .ask (IB (.iv 1) (.vv 2)), .ask (FT (.toI (.get (.vv 2) (.iv 1)))), .ask (FT (.add (.iv 0) (.il 1))), .ask (.not (.eq (.add (.iv 0) (.il 1)) (.il 0))), .ask (.le (.add (.len (.vv 3)) (.il 1)) (.il 8796093021696)), .ask (FT (.sub (.iv 0) (.rem (.toI (.get (.vv 2) (.iv 1))) (.add (.iv 0) (.il 1))))), .ask (FT (.add (.iv 1) (.il 1)))]) := by kernel_rfl
theorem p2 : stretch K 59 [true, true, false] s1 s1 [] ⟨[(.sub (.iv 0) (.il 0)), (.add (.iv 1) (.il 1))], [], [(.vv 0), (.vv 1), (.vv 2), (.snoc (.vv 3) (.ofI (.il 0)))], (Z [0, 1, 2, 3])⟩ [(0, (some 2))] = some (s1, [.ask (.lt (.iv 1) (.toI (.vv 0))), .ask (FT (.sub (.toI (.vv 0)) (.il 1))), .ask (.lt (.iv 1) (.sub (.toI (.vv 0)) (.il 1))), .ask (.not (.lt (.iv 1) (.len (.vv 2)))), .ask (.le (.add (.len (.vv 3)) (.il 1)) (.il 8796093021696)), .ask (FT (.sub (.iv 0) (.il 0))), .ask (FT (.add (.iv 1) (.il 1)))]) := by kernel_rfl
theorem p3 : stretch K 47 [true, false] s1 s1 [] ⟨[(.sub (.iv 0) (.iv 0)), (.add (.iv 1) (.il 1))], [], [(.vv 0), (.vv 1), (.vv 2), (.snoc (.vv 3) (.ofI (.iv 0)))], (Z [0, 1, 2, 3])⟩ [(0, (some 2))] = some (s1, [.ask (.lt (.iv 1) (.toI (.vv 0))), .ask (FT (.sub (.toI (.vv 0)) (.il 1))), .ask (.not (.lt (.iv 1) (.sub (.toI (.vv 0)) (.il 1)))), .ask (.le (.add (.len (.vv 3)) (.il 1)) (.il 8796093021696)), .ask (FT (.sub (.iv 0) (.iv 0))), .ask (FT (.add (.iv 1) (.il 1)))]) := by kernel_rfl
theorem p4 : last K 63 15 [false] s1 = some ((.vv 3), [.ask (.not (.lt (.iv 1) (.toI (.vv 0))))]) := by kernel_rfl
theorem b : sbegin prog 63 = some s0 := by kernel_rfl
end Split17
end X
namespace X
open Go Go.Abs Go.Sym
namespace from17
abbrev f : Nat := 64
noncomputable def K : Cfg := ⟨prog, pl, [], [], []⟩
noncomputable def s0 : SMach := ⟨⟨64, 30, (m (.agg [(.int .u8 (.toI (.get (.vv 0) (.il 0)))), (.int .u8 (.toI (.get (.vv 0) (.il 1)))), (.int .u8 (.toI (.get (.vv 0) (.il 2)))), (.pure 5 (.get (.vv 0) (.il 3)) (q 0 3)), (.pure 5 (.get (.vv 0) (.il 4)) (q 0 4))]) (l (.int .i64 (.toI (.vv 1)))) z z z), [.code (C 64 [])], [], .run, false, none⟩, [], ⟨0, 2, 2, z⟩⟩
noncomputable def s1 : SMach := ⟨⟨64, 30, (n (m (.int .i64 (.toI (.vv 1))) (l (.view 1)) z z z) (m (.addr 0 0) (l (.int .i64 (.iv 0))) z z z) z z), [.code (C 64 [1, 1, 1, 0, 1, 0, 0]), .inLoop (C 64 [1, 1, 1, 0, 1, 0, 0]), .inBlock 0, .code (C 64 [1, 1, 1, 1])], [], .run, false, none⟩, [], ⟨2, 4, 3, (m (.cells [(.int .u8 (.toI (.get (.vv 0) (.il 0)))), (.int .u8 (.toI (.get (.vv 0) (.il 1)))), (.int .u8 (.toI (.get (.vv 0) (.il 2)))), (.pure 5 (.get (.vv 0) (.il 3)) (q 2 0)), (.pure 5 (.get (.vv 0) (.il 4)) (q 3 0))]) (l (.arr 5 (.vv 2) 0)) z z z)⟩⟩
theorem p0 : last K 64 19 [true] s0 = some (.nil, [.ask (.eq (.len (.get (.vv 0) (.il 3))) (.il 0))]) := by kernel_rfl
theorem p1 : stretch K 26 [false] s0 s1 [] ⟨[(.il 0)], [], [(.vv 0), (.vv 1), .nil], [(q 0 0), (q 1 0), (q 0 3), (q 0 4)]⟩ [(0, (some 0)), (1, none)] = some (s1, [.ask (.not (.eq (.len (.get (.vv 0) (.il 3))) (.il 0)))]) := by kernel_rfl
theorem p2 : stretch K 34 [true] s1 s1 [] ⟨[(.add (.iv 0) (.il 1))], [], [(.vv 0), (.vv 1), (.snoc (.vv 2) (.ofI (.toI (.get (.get (.vv 0) (.il 3)) (.rem (.add (.toI (.vv 1)) (.iv 0)) (.len (.get (.vv 0) (.il 3))))))))], (Z [0, 1, 2, 3])⟩ [(0, (some 0)), (1, (some 3))] = some (s1, [.ask (.lt (.iv 0) (.il 4)), .ask (FT (.add (.toI (.vv 1)) (.iv 0))), .ask (.not (.eq (.len (.get (.vv 0) (.il 3))) (.il 0))), .ask (IB (.rem (.add (.toI (.vv 1)) (.iv 0)) (.len (.get (.vv 0) (.il 3)))) (.get (.vv 0) (.il 3))), .ask (.le (.add (.len (.vv 2)) (.il 1)) (.il 70368744177152)), .ask (FT (.add (.iv 0) (.il 1)))]) := by kernel_rfl
theorem p3 : last K 64 14 [false] s1 = some ((.vv 2), [.ask (.not (.lt (.iv 0) (.il 4)))]) := by kernel_rfl
theorem b : sbegin prog 64 = some s0 := by kernel_rfl
end from17
end X
namespace X
open Go Go.Abs Go.Sym
namespace DraftHidden
abbrev f : Nat := 24
noncomputable def K : Cfg := ⟨prog, pl, [], [64, 63], []⟩
noncomputable def s0 : SMach := ⟨⟨24, 62, (l (.agg [(.int .u8 (.toI (.get (.vv 0) (.il 0)))), (.int .u8 (.toI (.get (.vv 0) (.il 1)))), (.int .u8 (.toI (.get (.vv 0) (.il 2)))), (.pure 5 (.get (.vv 0) (.il 3)) (q 0 3)), (.pure 5 (.get (.vv 0) (.il 4)) (q 0 4))])), [.code (C 24 [])], [], .run, false, none⟩, [], ⟨0, 1, 1, z⟩⟩
noncomputable def s1 : SMach := ⟨⟨24, 62, (n (m (.addr 0 0) (l (.int .i64 (.add (.il 1) (.rem (.toI (.get (.vv 0) (.il 2))) (.il 4))))) z z z) (m (.addr 1 0) (l (.addr 2 0)) z z z) (m (.int .i64 (.add (.il 1) (.rem (.toI (.get (.vv 0) (.il 0))) (.il 12)))) (l (.int .i64 (.iv 0))) z z z) (l (.int .i64 (.add (.il 1) (.rem (.toI (.get (.vv 0) (.il 1))) (.il 4)))))), [.code (C 24 [1, 1, 1, 0, 1, 0, 0]), .inLoop (C 24 [1, 1, 1, 0, 1, 0, 0]), .inBlock 0, .code (C 24 [1, 1, 1, 1])], [], .run, false, none⟩, [], ⟨5, 6, 5, (m (.cells [(.int .u8 (.toI (.get (.vv 0) (.il 0)))), (.int .u8 (.toI (.get (.vv 0) (.il 1)))), (.int .u8 (.toI (.get (.vv 0) (.il 2)))), (.pure 5 (.get (.vv 0) (.il 3)) (q 3 0)), (.pure 5 (.get (.vv 0) (.il 4)) (q 4 0))]) (l (.cells [(.int .i64 (.il 0)), .nils, .nils, .nils])) (l (.cells [(.int .i64 (.add (.il 1) (.rem (.toI (.get (.vv 0) (.il 0))) (.il 12)))), (.pure 3 (.vv 2) (q 5 0)), (.view 3), (.view 4)])) (l (.arr 27 (.vv 3) 0)) (l (.arr 27 (.vv 4) 0)))⟩⟩
theorem p0 : stretch K 45 [] s0 s1 [] ⟨[(.il 0)], [], [(.vv 0), (.vv 1), (.vv 2), .nil, .nil], [(q 0 0), (q 1 0), (q 2 0), (q 0 3), (q 0 4), (q 2 0)]⟩ [(0, (some 0)), (1, (some 1)), (2, (some 2)), (3, none), (4, none)] = some (s1, [.ask (FT (.rem (.toI (.get (.vv 0) (.il 0))) (.il 12))), .ask (FT (.add (.il 1) (.rem (.toI (.get (.vv 0) (.il 0))) (.il 12)))), .ask (FT (.rem (.toI (.get (.vv 0) (.il 1))) (.il 4))), .ask (FT (.add (.il 1) (.rem (.toI (.get (.vv 0) (.il 1))) (.il 4)))), .ask (FT (.rem (.toI (.get (.vv 0) (.il 2))) (.il 4))), .ask (FT (.add (.il 1) (.rem (.toI (.get (.vv 0) (.il 2))) (.il 4)))), .call 64 [(.snoc (.snoc (.snoc (.snoc (.snoc .emp (.ofI (.toI (.get (.vv 0) (.il 0))))) (.ofI (.toI (.get (.vv 0) (.il 1))))) (.ofI (.toI (.get (.vv 0) (.il 2))))) (.get (.vv 0) (.il 3))) (.get (.vv 0) (.il 4))), (.ofI (.il 0))], .call 63 [(.ofI (.add (.il 1) (.rem (.toI (.get (.vv 0) (.il 1))) (.il 4)))), (.ofI (.add (.il 1) (.rem (.toI (.get (.vv 0) (.il 0))) (.il 12)))), (.vv 1)]]) := by kernel_rfl
theorem p1 : stretch K 51 [true] s1 s1 [] ⟨[(.add (.iv 0) (.il 1))], [], [(.vv 0), (.vv 1), (.vv 2), (.snoc (.vv 3) (.vv 6)), (.snoc (.vv 4) (.vv 8))], (Z [0, 1, 2, 3, 4, 5])⟩ [(0, (some 0)), (1, (some 1)), (2, (some 2)), (3, (some 6)), (4, (some 8))] = some (s1, [.ask (.lt (.iv 0) (.add (.il 1) (.rem (.toI (.get (.vv 0) (.il 1))) (.il 4)))), .ask (FT (.mul (.il 8) (.iv 0))), .ask (FT (.add (.il 4) (.mul (.il 8) (.iv 0)))), .call 64 [(.snoc (.snoc (.snoc (.snoc (.snoc .emp (.ofI (.toI (.get (.vv 0) (.il 0))))) (.ofI (.toI (.get (.vv 0) (.il 1))))) (.ofI (.toI (.get (.vv 0) (.il 2))))) (.get (.vv 0) (.il 3))) (.get (.vv 0) (.il 4))), (.ofI (.add (.il 4) (.mul (.il 8) (.iv 0))))], .call 63 [(.ofI (.add (.il 1) (.rem (.toI (.get (.vv 0) (.il 1))) (.il 4)))), (.ofI (.add (.il 1) (.rem (.toI (.get (.vv 0) (.il 0))) (.il 12)))), (.vv 5)], .ask (.le (.add (.len (.vv 3)) (.il 1)) (.il 2932031006890)), .ask (FT (.mul (.il 8) (.iv 0))), .ask (FT (.add (.il 8) (.mul (.il 8) (.iv 0)))), .call 64 [(.snoc (.snoc (.snoc (.snoc (.snoc .emp (.ofI (.toI (.get (.vv 0) (.il 0))))) (.ofI (.toI (.get (.vv 0) (.il 1))))) (.ofI (.toI (.get (.vv 0) (.il 2))))) (.get (.vv 0) (.il 3))) (.get (.vv 0) (.il 4))), (.ofI (.add (.il 8) (.mul (.il 8) (.iv 0))))], .call 63 [(.ofI (.add (.il 1) (.rem (.toI (.get (.vv 0) (.il 2))) (.il 4)))), (.ofI (.add (.il 1) (.rem (.toI (.get (.vv 0) (.il 0))) (.il 12)))), (.vv 7)], .ask (.le (.add (.len (.vv 4)) (.il 1)) (.il 2932031006890)), .ask (FT (.add (.iv 0) (.il 1)))]) := by kernel_rfl
theorem p2 : last K 24 15 [false] s1 = some ((.snoc (.snoc (.snoc (.snoc .emp (.ofI (.add (.il 1) (.rem (.toI (.get (.vv 0) (.il 0))) (.il 12))))) (.vv 2)) (.vv 3)) (.vv 4)), [.ask (.not (.lt (.iv 0) (.add (.il 1) (.rem (.toI (.get (.vv 0) (.il 1))) (.il 4)))))]) := by kernel_rfl
theorem b : sbegin prog 24 = some s0 := by kernel_rfl
end DraftHidden
end X
namespace X
open Go Go.Abs Go.Sym
namespace DraftWhat
abbrev f : Nat := 14
noncomputable def K : Cfg := ⟨prog, pl, [], [], []⟩
noncomputable def s0 : SMach := ⟨⟨14, 37, (l (.agg [(.int .u8 (.toI (.get (.vv 0) (.il 0)))), (.int .u8 (.toI (.get (.vv 0) (.il 1)))), (.int .u8 (.toI (.get (.vv 0) (.il 2)))), (.pure 5 (.get (.vv 0) (.il 3)) (q 0 3)), (.pure 5 (.get (.vv 0) (.il 4)) (q 0 4))])), [.code (C 14 [])], [], .run, false, none⟩, [], ⟨0, 1, 1, z⟩⟩
noncomputable def s1 : SMach := ⟨⟨14, 37, (n (l (.addr 0 0)) z (l (.view 1)) (l (.int .i64 (.iv 0)))), [.code (C 14 [1, 1, 0, 1, 0, 0]), .inLoop (C 14 [1, 1, 0, 1, 0, 0]), .inBlock 0, .code (C 14 [1, 1, 1])], [], .run, false, none⟩, [], ⟨2, 3, 2, (m (.cells [(.int .u8 (.toI (.get (.vv 0) (.il 0)))), (.int .u8 (.toI (.get (.vv 0) (.il 1)))), (.int .u8 (.toI (.get (.vv 0) (.il 2)))), (.pure 5 (.get (.vv 0) (.il 3)) (q 1 0)), (.pure 5 (.get (.vv 0) (.il 4)) (q 2 0))]) (l (.arr 3 (.vv 1) 0)) z z z)⟩⟩
theorem p0 : stretch K 16 [] s0 s1 [] ⟨[(.il 0)], [], [(.vv 0), .nil], [(q 0 0), (q 0 3), (q 0 4)]⟩ [(0, (some 0)), (1, none)] = some (s1, []) := by kernel_rfl
theorem p1 : stretch K 43 [true, true] s1 s1 [] ⟨[(.add (.iv 0) (.il 1))], [], [(.vv 0), (.snoc (.vv 1) (.ofI (.sub (.rem (.toI (.get (.get (.vv 0) (.il 4)) (.iv 0))) (.add (.il 2) (.rem (.toI (.get (.vv 0) (.il 2))) (.il 4)))) (.il 1))))], (Z [0, 1, 2])⟩ [(0, (some 0)), (1, (some 3))] = some (s1, [.ask (.lt (.iv 0) (.len (.get (.vv 0) (.il 4)))), .ask (.lt (.iv 0) (.il 8)), .ask (IB (.iv 0) (.get (.vv 0) (.il 4))), .ask (FT (.toI (.get (.get (.vv 0) (.il 4)) (.iv 0)))), .ask (FT (.rem (.toI (.get (.vv 0) (.il 2))) (.il 4))), .ask (FT (.add (.il 2) (.rem (.toI (.get (.vv 0) (.il 2))) (.il 4)))), .ask (.not (.eq (.add (.il 2) (.rem (.toI (.get (.vv 0) (.il 2))) (.il 4))) (.il 0))), .ask (FT (.sub (.rem (.toI (.get (.get (.vv 0) (.il 4)) (.iv 0))) (.add (.il 2) (.rem (.toI (.get (.vv 0) (.il 2))) (.il 4)))) (.il 1))), .ask (.le (.add (.len (.vv 1)) (.il 1)) (.il 8796093021696)), .ask (FT (.add (.iv 0) (.il 1)))]) := by kernel_rfl
theorem p3 : last K 14 30 [true, false, false] s1 = some ((.vv 1), [.ask (.lt (.iv 0) (.len (.get (.vv 0) (.il 4)))), .ask (.not (.lt (.iv 0) (.il 8))), .ask (.not (.eq (.len (.vv 1)) (.il 0)))]) := by kernel_rfl
theorem p4 : last K 14 33 [false, true] s1 = some ((.snoc .emp (.ofI (.il (-1)))), [.ask (.not (.lt (.iv 0) (.len (.get (.vv 0) (.il 4))))), .ask (.eq (.len (.vv 1)) (.il 0))]) := by kernel_rfl
theorem p5 : last K 14 30 [false, false] s1 = some ((.vv 1), [.ask (.not (.lt (.iv 0) (.len (.get (.vv 0) (.il 4))))), .ask (.not (.eq (.len (.vv 1)) (.il 0)))]) := by kernel_rfl
theorem b : sbegin prog 14 = some s0 := by kernel_rfl
end DraftWhat
end X
namespace X
open Go Go.Abs Go.Sym
namespace copied17
abbrev f : Nat := 78
noncomputable def K : Cfg := ⟨prog, pl, [(78, 19)], [], []⟩
noncomputable def s0 : SMach := ⟨⟨78, 22, (l (.pure 27 (.vv 0) (q 0 0))), [.code (C 78 [])], [], .run, false, none⟩, [], ⟨0, 1, 1, z⟩⟩
noncomputable def s1 : SMach := ⟨⟨78, 22, (m (.pure 27 (.vv 0) (q 1 0)) z z (l (.view 0)) (l (.int .i64 (.iv 0)))), [.code (C 78 [1, 1, 0, 1, 0, 0]), .inLoop (C 78 [1, 1, 0, 1, 0, 0]), .inBlock 0, .code (C 78 [1, 1, 1])], [], .run, false, none⟩, [], ⟨1, 2, 2, (l (.tree 27 (.vv 1) none))⟩⟩
theorem p0 : stretch K 15 [] s0 s1 [] ⟨[(.il 0)], [], [(.vv 0), .nil], (Z [0, 0])⟩ [(0, none)] = some (s1, []) := by kernel_rfl
theorem p1 : stretch K 35 [true] s1 s1 [] ⟨[(.add (.iv 0) (.il 1))], [], [(.vv 0), (.snoc (.vv 1) (.app .nil (.get (.vv 0) (.iv 0))))], (Z [0, 1])⟩ [(0, (some 3))] = some (s1, [.ask (.lt (.iv 0) (.len (.vv 0))), .ask (IB (.iv 0) (.vv 0)), .ask (.le (.len (.get (.vv 0) (.iv 0))) (.il 8796093021696)), .ask (.le (.add (.len (.vv 1)) (.il 1)) (.il 2932031006890)), .ask (FT (.add (.iv 0) (.il 1)))]) := by kernel_rfl
theorem p2 : lastO K 78 16 [false] s1 = some ((.vv 1), [.ask (.not (.lt (.iv 0) (.len (.vv 0))))]) := by kernel_rfl
theorem b : sbegin prog 78 = some s0 := by kernel_rfl
end copied17
end X
namespace X
open Go Go.Abs Go.Sym
namespace BendOf17
abbrev f : Nat := 43
noncomputable def K : Cfg := ⟨prog, pl, [], [], [78]⟩
noncomputable def s0 : SMach := ⟨⟨43, 123, (m (.agg [(.int .u8 (.toI (.get (.vv 0) (.il 0)))), (.int .u8 (.toI (.get (.vv 0) (.il 1)))), (.int .u8 (.toI (.get (.vv 0) (.il 2)))), (.int .i64 (.toI (.get (.vv 0) (.il 3))))]) (l (.agg [(.int .i64 (.toI (.get (.vv 1) (.il 0)))), (.pure 3 (.get (.vv 1) (.il 1)) (q 1 1)), (.pure 27 (.get (.vv 1) (.il 2)) (q 1 2)), (.pure 27 (.get (.vv 1) (.il 3)) (q 1 3))])) z z z), [.code (C 43 [])], [], .run, false, none⟩, [], ⟨0, 2, 2, z⟩⟩
theorem p0 : last K 43 70 [true] s0 = some ((.snoc (.snoc (.snoc (.snoc .emp (.ofI (.toI (.get (.vv 0) (.il 3))))) (.app .nil (.get (.vv 1) (.il 1)))) (.vv 2)) (.vv 3)), [.callO 78 [(.get (.vv 1) (.il 2))], .callO 78 [(.get (.vv 1) (.il 3))], .ask (.le (.len (.get (.vv 1) (.il 1))) (.il 8796093021696)), .ask (FT (.toI (.get (.vv 0) (.il 1)))), .ask (FT (.toI (.get (.vv 0) (.il 2)))), .ask (.eq (.rem (.toI (.get (.vv 0) (.il 0))) (.il 8)) (.il 0))]) := by kernel_rfl
theorem p1 : last K 43 83 [false, true] s0 = some ((.snoc (.snoc (.snoc (.snoc .emp (.ofI (.toI (.get (.vv 1) (.il 0))))) (.set (.app .nil (.get (.vv 1) (.il 1))) (.rem (.toI (.get (.vv 0) (.il 2))) (.len (.app .nil (.get (.vv 1) (.il 1))))) (.ofI (.toI (.get (.vv 0) (.il 3)))))) (.vv 2)) (.vv 3)), [.callO 78 [(.get (.vv 1) (.il 2))], .callO 78 [(.get (.vv 1) (.il 3))], .ask (.le (.len (.get (.vv 1) (.il 1))) (.il 8796093021696)), .ask (FT (.toI (.get (.vv 0) (.il 1)))), .ask (FT (.toI (.get (.vv 0) (.il 2)))), .ask (.not (.eq (.rem (.toI (.get (.vv 0) (.il 0))) (.il 8)) (.il 0))), .ask (.eq (.rem (.toI (.get (.vv 0) (.il 0))) (.il 8)) (.il 1)), .ask (.not (.eq (.len (.app .nil (.get (.vv 1) (.il 1)))) (.il 0))), .ask (IB (.rem (.toI (.get (.vv 0) (.il 2))) (.len (.app .nil (.get (.vv 1) (.il 1))))) (.app .nil (.get (.vv 1) (.il 1)))), .ask (IB (.rem (.toI (.get (.vv 0) (.il 2))) (.len (.app .nil (.get (.vv 1) (.il 1))))) (.app .nil (.get (.vv 1) (.il 1))))]) := by kernel_rfl
theorem p2 : last K 43 100 [false, false, true] s0 = some ((.snoc (.snoc (.snoc (.snoc .emp (.ofI (.toI (.get (.vv 1) (.il 0))))) (.app .nil (.get (.vv 1) (.il 1)))) (.set (.vv 2) (.rem (.toI (.get (.vv 0) (.il 1))) (.len (.vv 2))) (.set (.get (.vv 2) (.rem (.toI (.get (.vv 0) (.il 1))) (.len (.vv 2)))) (.rem (.toI (.get (.vv 0) (.il 2))) (.len (.get (.vv 2) (.rem (.toI (.get (.vv 0) (.il 1))) (.len (.vv 2)))))) (.ofI (.toI (.get (.vv 0) (.il 3))))))) (.vv 3)), [.callO 78 [(.get (.vv 1) (.il 2))], .callO 78 [(.get (.vv 1) (.il 3))], .ask (.le (.len (.get (.vv 1) (.il 1))) (.il 8796093021696)), .ask (FT (.toI (.get (.vv 0) (.il 1)))), .ask (FT (.toI (.get (.vv 0) (.il 2)))), .ask (.not (.eq (.rem (.toI (.get (.vv 0) (.il 0))) (.il 8)) (.il 0))), .ask (.not (.eq (.rem (.toI (.get (.vv 0) (.il 0))) (.il 8)) (.il 1))), .ask (.eq (.rem (.toI (.get (.vv 0) (.il 0))) (.il 8)) (.il 2)), .ask (.not (.eq (.len (.vv 2)) (.il 0))), .ask (IB (.rem (.toI (.get (.vv 0) (.il 1))) (.len (.vv 2))) (.vv 2)), .ask (IB (.rem (.toI (.get (.vv 0) (.il 1))) (.len (.vv 2))) (.vv 2)), .ask (IB (.rem (.toI (.get (.vv 0) (.il 1))) (.len (.vv 2))) (.vv 2)), .ask (.not (.eq (.len (.get (.vv 2) (.rem (.toI (.get (.vv 0) (.il 1))) (.len (.vv 2))))) (.il 0))), .ask (IB (.rem (.toI (.get (.vv 0) (.il 2))) (.len (.get (.vv 2) (.rem (.toI (.get (.vv 0) (.il 1))) (.len (.vv 2)))))) (.get (.vv 2) (.rem (.toI (.get (.vv 0) (.il 1))) (.len (.vv 2))))), .ask (IB (.rem (.toI (.get (.vv 0) (.il 2))) (.len (.get (.vv 2) (.rem (.toI (.get (.vv 0) (.il 1))) (.len (.vv 2)))))) (.get (.vv 2) (.rem (.toI (.get (.vv 0) (.il 1))) (.len (.vv 2)))))]) := by kernel_rfl
theorem p3 : last K 43 106 [false, false, false, true] s0 = some ((.snoc (.snoc (.snoc (.snoc .emp (.ofI (.toI (.get (.vv 1) (.il 0))))) (.app .nil (.get (.vv 1) (.il 1)))) (.vv 2)) (.set (.vv 3) (.rem (.toI (.get (.vv 0) (.il 1))) (.len (.vv 3))) (.set (.get (.vv 3) (.rem (.toI (.get (.vv 0) (.il 1))) (.len (.vv 3)))) (.rem (.toI (.get (.vv 0) (.il 2))) (.len (.get (.vv 3) (.rem (.toI (.get (.vv 0) (.il 1))) (.len (.vv 3)))))) (.ofI (.toI (.get (.vv 0) (.il 3))))))), [.callO 78 [(.get (.vv 1) (.il 2))], .callO 78 [(.get (.vv 1) (.il 3))], .ask (.le (.len (.get (.vv 1) (.il 1))) (.il 8796093021696)), .ask (FT (.toI (.get (.vv 0) (.il 1)))), .ask (FT (.toI (.get (.vv 0) (.il 2)))), .ask (.not (.eq (.rem (.toI (.get (.vv 0) (.il 0))) (.il 8)) (.il 0))), .ask (.not (.eq (.rem (.toI (.get (.vv 0) (.il 0))) (.il 8)) (.il 1))), .ask (.not (.eq (.rem (.toI (.get (.vv 0) (.il 0))) (.il 8)) (.il 2))), .ask (.eq (.rem (.toI (.get (.vv 0) (.il 0))) (.il 8)) (.il 3)), .ask (.not (.eq (.len (.vv 3)) (.il 0))), .ask (IB (.rem (.toI (.get (.vv 0) (.il 1))) (.len (.vv 3))) (.vv 3)), .ask (IB (.rem (.toI (.get (.vv 0) (.il 1))) (.len (.vv 3))) (.vv 3)), .ask (IB (.rem (.toI (.get (.vv 0) (.il 1))) (.len (.vv 3))) (.vv 3)), .ask (.not (.eq (.len (.get (.vv 3) (.rem (.toI (.get (.vv 0) (.il 1))) (.len (.vv 3))))) (.il 0))), .ask (IB (.rem (.toI (.get (.vv 0) (.il 2))) (.len (.get (.vv 3) (.rem (.toI (.get (.vv 0) (.il 1))) (.len (.vv 3)))))) (.get (.vv 3) (.rem (.toI (.get (.vv 0) (.il 1))) (.len (.vv 3))))), .ask (IB (.rem (.toI (.get (.vv 0) (.il 2))) (.len (.get (.vv 3) (.rem (.toI (.get (.vv 0) (.il 1))) (.len (.vv 3)))))) (.get (.vv 3) (.rem (.toI (.get (.vv 0) (.il 1))) (.len (.vv 3)))))]) := by kernel_rfl
theorem p4 : last K 43 95 [false, false, false, false, true] s0 = some ((.snoc (.snoc (.snoc (.snoc .emp (.ofI (.toI (.get (.vv 1) (.il 0))))) (.app .nil (.get (.vv 1) (.il 1)))) (.cut (.vv 2) (.il 1) (.len (.vv 2)))) (.vv 3)), [.callO 78 [(.get (.vv 1) (.il 2))], .callO 78 [(.get (.vv 1) (.il 3))], .ask (.le (.len (.get (.vv 1) (.il 1))) (.il 8796093021696)), .ask (FT (.toI (.get (.vv 0) (.il 1)))), .ask (FT (.toI (.get (.vv 0) (.il 2)))), .ask (.not (.eq (.rem (.toI (.get (.vv 0) (.il 0))) (.il 8)) (.il 0))), .ask (.not (.eq (.rem (.toI (.get (.vv 0) (.il 0))) (.il 8)) (.il 1))), .ask (.not (.eq (.rem (.toI (.get (.vv 0) (.il 0))) (.il 8)) (.il 2))), .ask (.not (.eq (.rem (.toI (.get (.vv 0) (.il 0))) (.il 8)) (.il 3))), .ask (.eq (.rem (.toI (.get (.vv 0) (.il 0))) (.il 8)) (.il 4)), .ask (.le (.il 1) (.len (.vv 2))), .ask (.le (.len (.vv 2)) (.len (.vv 2)))]) := by kernel_rfl
theorem p5 : last K 43 116 [false, false, false, false, false, true] s0 = some ((.snoc (.snoc (.snoc (.snoc .emp (.ofI (.toI (.get (.vv 1) (.il 0))))) (.app .nil (.get (.vv 1) (.il 1)))) (.vv 2)) (.set (.vv 3) (.rem (.toI (.get (.vv 0) (.il 1))) (.len (.vv 3))) (.snoc (.get (.vv 3) (.rem (.toI (.get (.vv 0) (.il 1))) (.len (.vv 3)))) (.ofI (.il 0))))), [.callO 78 [(.get (.vv 1) (.il 2))], .callO 78 [(.get (.vv 1) (.il 3))], .ask (.le (.len (.get (.vv 1) (.il 1))) (.il 8796093021696)), .ask (FT (.toI (.get (.vv 0) (.il 1)))), .ask (FT (.toI (.get (.vv 0) (.il 2)))), .ask (.not (.eq (.rem (.toI (.get (.vv 0) (.il 0))) (.il 8)) (.il 0))), .ask (.not (.eq (.rem (.toI (.get (.vv 0) (.il 0))) (.il 8)) (.il 1))), .ask (.not (.eq (.rem (.toI (.get (.vv 0) (.il 0))) (.il 8)) (.il 2))), .ask (.not (.eq (.rem (.toI (.get (.vv 0) (.il 0))) (.il 8)) (.il 3))), .ask (.not (.eq (.rem (.toI (.get (.vv 0) (.il 0))) (.il 8)) (.il 4))), .ask (.eq (.rem (.toI (.get (.vv 0) (.il 0))) (.il 8)) (.il 5)), .ask (.not (.eq (.len (.vv 3)) (.il 0))), .ask (.not (.eq (.len (.vv 3)) (.il 0))), .ask (IB (.rem (.toI (.get (.vv 0) (.il 1))) (.len (.vv 3))) (.vv 3)), .ask (IB (.rem (.toI (.get (.vv 0) (.il 1))) (.len (.vv 3))) (.vv 3)), .ask (IB (.rem (.toI (.get (.vv 0) (.il 1))) (.len (.vv 3))) (.vv 3)), .ask (.le (.add (.len (.get (.vv 3) (.rem (.toI (.get (.vv 0) (.il 1))) (.len (.vv 3))))) (.il 1)) (.il 8796093021696)), .ask (IB (.rem (.toI (.get (.vv 0) (.il 1))) (.len (.vv 3))) (.vv 3)), .ask (IB (.rem (.toI (.get (.vv 0) (.il 1))) (.len (.vv 3))) (.vv 3))]) := by kernel_rfl
theorem p6 : last K 43 108 [false, false, false, false, false, false, true] s0 = some ((.snoc (.snoc (.snoc (.snoc .emp (.ofI (.toI (.get (.vv 1) (.il 0))))) (.snoc (.app .nil (.get (.vv 1) (.il 1))) (.ofI (.il 0)))) (.vv 2)) (.vv 3)), [.callO 78 [(.get (.vv 1) (.il 2))], .callO 78 [(.get (.vv 1) (.il 3))], .ask (.le (.len (.get (.vv 1) (.il 1))) (.il 8796093021696)), .ask (FT (.toI (.get (.vv 0) (.il 1)))), .ask (FT (.toI (.get (.vv 0) (.il 2)))), .ask (.not (.eq (.rem (.toI (.get (.vv 0) (.il 0))) (.il 8)) (.il 0))), .ask (.not (.eq (.rem (.toI (.get (.vv 0) (.il 0))) (.il 8)) (.il 1))), .ask (.not (.eq (.rem (.toI (.get (.vv 0) (.il 0))) (.il 8)) (.il 2))), .ask (.not (.eq (.rem (.toI (.get (.vv 0) (.il 0))) (.il 8)) (.il 3))), .ask (.not (.eq (.rem (.toI (.get (.vv 0) (.il 0))) (.il 8)) (.il 4))), .ask (.not (.eq (.rem (.toI (.get (.vv 0) (.il 0))) (.il 8)) (.il 5))), .ask (.eq (.rem (.toI (.get (.vv 0) (.il 0))) (.il 8)) (.il 6)), .ask (.le (.add (.len (.app .nil (.get (.vv 1) (.il 1)))) (.il 1)) (.il 8796093021696))]) := by kernel_rfl
theorem p7 : last K 43 104 [false, false, false, false, false, false, false] s0 = some ((.snoc (.snoc (.snoc (.snoc .emp (.ofI (.toI (.get (.vv 1) (.il 0))))) (.app .nil (.get (.vv 1) (.il 1)))) (.vv 2)) .nil), [.callO 78 [(.get (.vv 1) (.il 2))], .callO 78 [(.get (.vv 1) (.il 3))], .ask (.le (.len (.get (.vv 1) (.il 1))) (.il 8796093021696)), .ask (FT (.toI (.get (.vv 0) (.il 1)))), .ask (FT (.toI (.get (.vv 0) (.il 2)))), .ask (.not (.eq (.rem (.toI (.get (.vv 0) (.il 0))) (.il 8)) (.il 0))), .ask (.not (.eq (.rem (.toI (.get (.vv 0) (.il 0))) (.il 8)) (.il 1))), .ask (.not (.eq (.rem (.toI (.get (.vv 0) (.il 0))) (.il 8)) (.il 2))), .ask (.not (.eq (.rem (.toI (.get (.vv 0) (.il 0))) (.il 8)) (.il 3))), .ask (.not (.eq (.rem (.toI (.get (.vv 0) (.il 0))) (.il 8)) (.il 4))), .ask (.not (.eq (.rem (.toI (.get (.vv 0) (.il 0))) (.il 8)) (.il 5))), .ask (.not (.eq (.rem (.toI (.get (.vv 0) (.il 0))) (.il 8)) (.il 6)))]) := by kernel_rfl
theorem b : sbegin prog 43 = some s0 := by kernel_rfl
end BendOf17
end X
namespace X
open Go Go.Abs Go.Sym
namespace few17
abbrev f : Nat := 44
noncomputable def K : Cfg := ⟨prog, pl, [], [], []⟩
noncomputable def e0 : SV := .int .i64 (.toI (.get (.vv 0) (.il 0)))
noncomputable def s0 : SMach := ⟨⟨44, 65, (l (.agg [e0, (.pure 3 (.get (.vv 0) (.il 1)) (q 0 1)), (.pure 27 (.get (.vv 0) (.il 2)) (q 0 2)), (.pure 27 (.get (.vv 0) (.il 3)) (q 0 3))])), [.code (C 44 [])], [], .run, false, none⟩, [], ⟨0, 1, 1, z⟩⟩
noncomputable def s1 : SMach := ⟨⟨44, 65, (n (m (.addr 0 0) z (n (l (.int .i64 (.len (.cut (.get (.vv 0) (.il 2)) (.il 0) (.min (.len (.get (.vv 0) (.il 2))) (.il 6)))))) z z z) z z) (m (.addr 1 0) z (n (l (.int .i64 (.iv 0))) z z z) z z) (l (.addr 2 0)) (n (n (l (.pure 27 (.cut (.get (.vv 0) (.il 2)) (.il 0) (.min (.len (.get (.vv 0) (.il 2))) (.il 6))) (q 5 0))) z z z) z z z)), [.code (C 44 [1, 1, 0, 1, 0, 0]), .inLoop (C 44 [1, 1, 0, 1, 0, 0]), .inBlock 0, .code (C 44 [1, 1, 1])], [], .run, false, none⟩, [], ⟨4, 6, 2, (m (.cells [e0, (.pure 3 (.get (.vv 0) (.il 1)) (q 1 0)), (.pure 27 (.get (.vv 0) (.il 2)) (q 2 0)), (.pure 27 (.get (.vv 0) (.il 3)) (q 3 0))]) (l (.cells [(.int .i64 (.il 0)), .nils, .nils, .nils])) (l (.cells [e0, (.pure 3 (.cut (.get (.vv 0) (.il 1)) (.il 0) (.min (.len (.get (.vv 0) (.il 1))) (.il 6))) (q 4 0)), (.view 3), .nils])) (l (.arr 27 (.vv 1) 0)) z)⟩⟩
noncomputable def s2 : SMach := ⟨⟨44, 65, (n (n z z z (n z (l (.int .i64 (.iv 0))) z z)) (l (.addr 1 0)) (m (.addr 2 0) z z (n z (l (.pure 27 (.cut (.get (.vv 0) (.il 3)) (.il 0) (.min (.len (.get (.vv 0) (.il 3))) (.il 6))) (q 7 0))) z z) z) (n z z (n z (l (.int .i64 (.len (.cut (.get (.vv 0) (.il 3)) (.il 0) (.min (.len (.get (.vv 0) (.il 3))) (.il 6)))))) z z) z)), [.code (C 44 [1, 1, 1, 0, 1, 0, 0]), .inLoop (C 44 [1, 1, 1, 0, 1, 0, 0]), .inBlock 2, .code (C 44 [1, 1, 1, 1])], [], .run, false, none⟩, [], ⟨5, 8, 3, (n (l (.cells [(.int .i64 (.il 0)), .nils, .nils, .nils])) (l (.cells [e0, (.pure 3 (.cut (.get (.vv 0) (.il 1)) (.il 0) (.min (.len (.get (.vv 0) (.il 1))) (.il 6))) (q 6 0)), (.view 3), (.view 4)])) (l (.arr 27 (.vv 1) 0)) (l (.arr 27 (.vv 2) 0)))⟩⟩
theorem p0 : stretch K 35 [] s0 s1 [] ⟨[(.il 0)], [], [(.vv 0), .nil], [(q 0 0), (q 0 1), (q 0 2), (q 0 3), (.sub (q 0 1) (.il 0) (.min (.len (.get (.vv 0) (.il 1))) (.il 6)) 1), (.sub (q 0 2) (.il 0) (.min (.len (.get (.vv 0) (.il 2))) (.il 6)) 1)]⟩ [(0, (some 0)), (1, (some 1)), (2, (some 2)), (3, none)] = some (s1, [.ask (.le (.il 0) (.min (.len (.get (.vv 0) (.il 1))) (.il 6))), .ask (.le (.min (.len (.get (.vv 0) (.il 1))) (.il 6)) (.len (.get (.vv 0) (.il 1)))), .ask (.le (.il 0) (.min (.len (.get (.vv 0) (.il 2))) (.il 6))), .ask (.le (.min (.len (.get (.vv 0) (.il 2))) (.il 6)) (.len (.get (.vv 0) (.il 2))))]) := by kernel_rfl
theorem p1 : stretch K 34 [true] s1 s1 [] ⟨[(.add (.iv 0) (.il 1))], [], [(.vv 0), (.snoc (.vv 1) (.cut (.get (.cut (.get (.vv 0) (.il 2)) (.il 0) (.min (.len (.get (.vv 0) (.il 2))) (.il 6))) (.iv 0)) (.il 0) (.min (.len (.get (.cut (.get (.vv 0) (.il 2)) (.il 0) (.min (.len (.get (.vv 0) (.il 2))) (.il 6))) (.iv 0))) (.il 6))))], (Z [0, 1, 2, 3, 4, 5])⟩ [(0, (some 0)), (1, (some 1)), (2, (some 2)), (3, (some 5))] = some (s1, [.ask (.lt (.iv 0) (.len (.cut (.get (.vv 0) (.il 2)) (.il 0) (.min (.len (.get (.vv 0) (.il 2))) (.il 6))))), .ask (IB (.iv 0) (.cut (.get (.vv 0) (.il 2)) (.il 0) (.min (.len (.get (.vv 0) (.il 2))) (.il 6)))), .ask (.le (.il 0) (.min (.len (.get (.cut (.get (.vv 0) (.il 2)) (.il 0) (.min (.len (.get (.vv 0) (.il 2))) (.il 6))) (.iv 0))) (.il 6))), .ask (.le (.min (.len (.get (.cut (.get (.vv 0) (.il 2)) (.il 0) (.min (.len (.get (.vv 0) (.il 2))) (.il 6))) (.iv 0))) (.il 6)) (.len (.get (.cut (.get (.vv 0) (.il 2)) (.il 0) (.min (.len (.get (.vv 0) (.il 2))) (.il 6))) (.iv 0)))), .ask (.le (.add (.len (.vv 1)) (.il 1)) (.il 2932031006890)), .ask (FT (.add (.iv 0) (.il 1)))]) := by kernel_rfl
theorem p2 : stretch K 22 [false] s1 s2 [] ⟨[(.il 0)], [], [(.vv 0), (.vv 1), .nil], [(q 0 0), (q 1 0), (q 2 0), (q 3 0), (q 4 0), (q 5 0), (q 4 0), (.sub (q 3 0) (.il 0) (.min (.len (.get (.vv 0) (.il 3))) (.il 6)) 1)]⟩ [(1, (some 1)), (2, (some 2)), (3, (some 3)), (4, none)] = some (s2, [.ask (.not (.lt (.iv 0) (.len (.cut (.get (.vv 0) (.il 2)) (.il 0) (.min (.len (.get (.vv 0) (.il 2))) (.il 6)))))), .ask (.le (.il 0) (.min (.len (.get (.vv 0) (.il 3))) (.il 6))), .ask (.le (.min (.len (.get (.vv 0) (.il 3))) (.il 6)) (.len (.get (.vv 0) (.il 3))))]) := by kernel_rfl
theorem p3 : stretch K 34 [true] s2 s2 [] ⟨[(.add (.iv 0) (.il 1))], [], [(.vv 0), (.vv 1), (.snoc (.vv 2) (.cut (.get (.cut (.get (.vv 0) (.il 3)) (.il 0) (.min (.len (.get (.vv 0) (.il 3))) (.il 6))) (.iv 0)) (.il 0) (.min (.len (.get (.cut (.get (.vv 0) (.il 3)) (.il 0) (.min (.len (.get (.vv 0) (.il 3))) (.il 6))) (.iv 0))) (.il 6))))], (Z [0, 1, 2, 3, 4, 5, 6, 7])⟩ [(1, (some 1)), (2, (some 2)), (3, (some 3)), (4, (some 6))] = some (s2, [.ask (.lt (.iv 0) (.len (.cut (.get (.vv 0) (.il 3)) (.il 0) (.min (.len (.get (.vv 0) (.il 3))) (.il 6))))), .ask (IB (.iv 0) (.cut (.get (.vv 0) (.il 3)) (.il 0) (.min (.len (.get (.vv 0) (.il 3))) (.il 6)))), .ask (.le (.il 0) (.min (.len (.get (.cut (.get (.vv 0) (.il 3)) (.il 0) (.min (.len (.get (.vv 0) (.il 3))) (.il 6))) (.iv 0))) (.il 6))), .ask (.le (.min (.len (.get (.cut (.get (.vv 0) (.il 3)) (.il 0) (.min (.len (.get (.vv 0) (.il 3))) (.il 6))) (.iv 0))) (.il 6)) (.len (.get (.cut (.get (.vv 0) (.il 3)) (.il 0) (.min (.len (.get (.vv 0) (.il 3))) (.il 6))) (.iv 0)))), .ask (.le (.add (.len (.vv 2)) (.il 1)) (.il 2932031006890)), .ask (FT (.add (.iv 0) (.il 1)))]) := by kernel_rfl
theorem p4 : last K 44 13 [false] s2 = some ((.snoc (.snoc (.snoc (.snoc .emp (.ofI (.toI (.get (.vv 0) (.il 0))))) (.cut (.get (.vv 0) (.il 1)) (.il 0) (.min (.len (.get (.vv 0) (.il 1))) (.il 6)))) (.vv 1)) (.vv 2)), [.ask (.not (.lt (.iv 0) (.len (.cut (.get (.vv 0) (.il 3)) (.il 0) (.min (.len (.get (.vv 0) (.il 3))) (.il 6))))))]) := by kernel_rfl
theorem b : sbegin prog 44 = some s0 := by kernel_rfl
end few17
end X
namespace X
open Go Go.Abs Go.Sym
namespace chains
abbrev f : Nat := 11
noncomputable def K : Cfg := ⟨prog, pl, [], [24, 43, 44], []⟩
noncomputable def s0 : SMach := ⟨⟨11, 17, (m (.agg [(.int .u8 (.toI (.get (.vv 0) (.il 0)))), (.int .u8 (.toI (.get (.vv 0) (.il 1)))), (.int .u8 (.toI (.get (.vv 0) (.il 2)))), (.pure 5 (.get (.vv 0) (.il 3)) (q 0 3)), (.pure 5 (.get (.vv 0) (.il 4)) (q 0 4))]) (l (.agg [(.int .u8 (.toI (.get (.vv 1) (.il 0)))), (.int .u8 (.toI (.get (.vv 1) (.il 1)))), (.int .u8 (.toI (.get (.vv 1) (.il 2)))), (.int .i64 (.toI (.get (.vv 1) (.il 3))))])) (l (.agg [(.int .i64 (.toI (.get (.vv 2) (.il 0)))), (.pure 3 (.get (.vv 2) (.il 1)) (q 2 1)), (.pure 27 (.get (.vv 2) (.il 2)) (q 2 2)), (.pure 27 (.get (.vv 2) (.il 3)) (q 2 3))])) z z), [.code (C 11 [])], [], .run, false, none⟩, [], ⟨0, 3, 3, z⟩⟩
theorem p0 : last K 11 26 [] s0 = some ((.snoc (.snoc (.snoc .emp (HM (.vv 3))) (HM (.vv 4))) (HM (.vv 5))), [.call 24 [(.snoc (.snoc (.snoc (.snoc (.snoc .emp (.ofI (.toI (.get (.vv 0) (.il 0))))) (.ofI (.toI (.get (.vv 0) (.il 1))))) (.ofI (.toI (.get (.vv 0) (.il 2))))) (.get (.vv 0) (.il 3))) (.get (.vv 0) (.il 4)))], .call 43 [(.snoc (.snoc (.snoc (.snoc .emp (.ofI (.toI (.get (.vv 1) (.il 0))))) (.ofI (.toI (.get (.vv 1) (.il 1))))) (.ofI (.toI (.get (.vv 1) (.il 2))))) (.ofI (.toI (.get (.vv 1) (.il 3))))), (HM (.vv 3))], .call 44 [(HM (.vv 2))]]) := by kernel_rfl
theorem b : sbegin prog 11 = some s0 := by kernel_rfl
end chains
end X
namespace X
open Go Go.Abs Go.Sym
namespace hrow
abbrev f : Nat := 79
noncomputable def K : Cfg := ⟨prog, pl, [], [], []⟩
noncomputable def s0 : SMach := ⟨⟨79, 36, (m (.pure 3 (.vv 0) (q 0 0)) (l (.int .i64 (.toI (.vv 1)))) (l (.int .i64 (.toI (.vv 2)))) z z), [.code (C 79 [])], [], .run, false, none⟩, [], ⟨0, 3, 3, z⟩⟩
noncomputable def s1 : SMach := ⟨⟨79, 36, (m (.pure 3 (.vv 0) (q 3 0)) (l (.int .i64 (.toI (.vv 1)))) (m (.int .i64 (.toI (.vv 2))) z (l (.pure 3 (.vv 0) (q 4 0))) z z) (n (l (.int .i64 (.iv 0))) (l (.int .i64 (.len (.vv 0)))) z z) (n z (l (.int .i64 (.iv 1))) z z)), [.code (C 79 [1, 1, 0, 1, 0, 0]), .inLoop (C 79 [1, 1, 0, 1, 0, 0]), .inBlock 0, .code (C 79 [1, 1, 1])], [], .run, false, none⟩, [], ⟨0, 5, 3, z⟩⟩
theorem p0 : stretch K 17 [] s0 s1 [] ⟨[(.il 0), (.il 0)], [], [(.vv 0), (.vv 1), (.vv 2)], (Z [0, 1, 2, 0, 0])⟩ [] = some (s1, []) := by kernel_rfl
theorem p1 : last K 79 32 [true, true] s1 = some ((.ofB (.bl false)), [.ask (.lt (.iv 1) (.len (.vv 0))), .ask (IB (.iv 1) (.vv 0)), .ask (.lt (.toI (.get (.vv 0) (.iv 1))) (.il 0))]) := by kernel_rfl
theorem p2 : last K 79 32 [true, false, true] s1 = some ((.ofB (.bl false)), [.ask (.lt (.iv 1) (.len (.vv 0))), .ask (IB (.iv 1) (.vv 0)), .ask (.not (.lt (.toI (.get (.vv 0) (.iv 1))) (.il 0))), .ask (.lt (.toI (.vv 2)) (.toI (.get (.vv 0) (.iv 1))))]) := by kernel_rfl
theorem p3 : stretch K 40 [true, false, false] s1 s1 [] ⟨[(.add (.iv 0) (.toI (.get (.vv 0) (.iv 1)))), (.add (.iv 1) (.il 1))], [], [(.vv 0), (.vv 1), (.vv 2)], (Z [0, 1, 2, 3, 4])⟩ [] = some (s1, [.ask (.lt (.iv 1) (.len (.vv 0))), .ask (IB (.iv 1) (.vv 0)), .ask (.not (.lt (.toI (.get (.vv 0) (.iv 1))) (.il 0))), .ask (.not (.lt (.toI (.vv 2)) (.toI (.get (.vv 0) (.iv 1))))), .ask (FT (.add (.iv 0) (.toI (.get (.vv 0) (.iv 1))))), .ask (FT (.add (.iv 1) (.il 1)))]) := by kernel_rfl
theorem p4 : last K 79 21 [false, true] s1 = some ((.ofB (.eq (.iv 0) (.toI (.vv 2)))), [.ask (.not (.lt (.iv 1) (.len (.vv 0)))), .ask (.eq (.len (.vv 0)) (.toI (.vv 1)))]) := by kernel_rfl
theorem p5 : last K 79 21 [false, false] s1 = some ((.ofB (.bl false)), [.ask (.not (.lt (.iv 1) (.len (.vv 0)))), .ask (.not (.eq (.len (.vv 0)) (.toI (.vv 1))))]) := by kernel_rfl
theorem b : sbegin prog 79 = some s0 := by kernel_rfl
end hrow
end X
namespace X
open Go Go.Abs Go.Sym
namespace hrows
abbrev f : Nat := 80
noncomputable def K : Cfg := ⟨prog, pl, [], [79], []⟩
noncomputable def s0 : SMach := ⟨⟨80, 27, (m (.pure 27 (.vv 0) (q 0 0)) (l (.int .i64 (.toI (.vv 1)))) (l (.int .i64 (.toI (.vv 2)))) (l (.int .i64 (.toI (.vv 3)))) z), [.code (C 80 [])], [], .run, false, none⟩, [], ⟨0, 4, 4, z⟩⟩
noncomputable def s1 : SMach := ⟨⟨80, 27, (m (.pure 27 (.vv 0) (q 4 0)) (m (.int .i64 (.toI (.vv 1))) z z (l (.int .i64 (.iv 0))) z) (l (.int .i64 (.toI (.vv 2)))) (m (.int .i64 (.toI (.vv 3))) z (l (.pure 27 (.vv 0) (q 5 0))) z z) (n z (l (.int .i64 (.len (.vv 0)))) z z)), [.code (C 80 [1, 0, 1, 0, 0]), .inLoop (C 80 [1, 0, 1, 0, 0]), .inBlock 0, .code (C 80 [1, 1])], [], .run, false, none⟩, [], ⟨0, 6, 4, z⟩⟩
theorem p0 : stretch K 13 [] s0 s1 [] ⟨[(.il 0)], [], [(.vv 0), (.vv 1), (.vv 2), (.vv 3)], (Z [0, 1, 2, 3, 0, 0])⟩ [] = some (s1, []) := by kernel_rfl
theorem p1 : last K 80 29 [true, true] s1 = some ((.ofB (.bl false)), [.ask (.lt (.iv 0) (.len (.vv 0))), .ask (IB (.iv 0) (.vv 0)), .call 79 [(.get (.vv 0) (.iv 0)), (.ofI (.toI (.vv 2))), (.ofI (.toI (.vv 3)))], .ask (.not (.toB (.vv 4)))]) := by kernel_rfl
theorem p2 : stretch K 31 [true, false] s1 s1 [] ⟨[(.add (.iv 0) (.il 1))], [], [(.vv 0), (.vv 1), (.vv 2), (.vv 3)], (Z [0, 1, 2, 3, 4, 5])⟩ [] = some (s1, [.ask (.lt (.iv 0) (.len (.vv 0))), .ask (IB (.iv 0) (.vv 0)), .call 79 [(.get (.vv 0) (.iv 0)), (.ofI (.toI (.vv 2))), (.ofI (.toI (.vv 3)))], .ask (.not (.not (.toB (.vv 4)))), .ask (FT (.add (.iv 0) (.il 1)))]) := by kernel_rfl
theorem p3 : last K 80 16 [false] s1 = some ((.ofB (.eq (.len (.vv 0)) (.toI (.vv 1)))), [.ask (.not (.lt (.iv 0) (.len (.vv 0))))]) := by kernel_rfl
theorem b : sbegin prog 80 = some s0 := by kernel_rfl
end hrows
end X
namespace X
open Go Go.Abs Go.Sym
namespace hvalid
abbrev f : Nat := 45
noncomputable def K : Cfg := ⟨prog, pl, [], [79, 80], []⟩
noncomputable def s0 : SMach := ⟨⟨45, 68, (l (.agg [(.int .i64 (.toI (.get (.vv 0) (.il 0)))), (.pure 3 (.get (.vv 0) (.il 1)) (q 0 1)), (.pure 27 (.get (.vv 0) (.il 2)) (q 0 2)), (.pure 27 (.get (.vv 0) (.il 3)) (q 0 3))])), [.code (C 45 [])], [], .run, false, none⟩, [], ⟨0, 1, 1, z⟩⟩
theorem p0 : last K 45 45 [true] s0 = some ((.ofB (.bl false)), [.ask (.lt (.toI (.get (.vv 0) (.il 0))) (.il 1))]) := by kernel_rfl
theorem p1 : last K 45 45 [false, true] s0 = some ((.ofB (.bl false)), [.ask (.not (.lt (.toI (.get (.vv 0) (.il 0))) (.il 1))), .ask (.lt (.il 12) (.toI (.get (.vv 0) (.il 0))))]) := by kernel_rfl
theorem p2 : last K 45 45 [false, false, true] s0 = some ((.ofB (.bl false)), [.ask (.not (.lt (.toI (.get (.vv 0) (.il 0))) (.il 1))), .ask (.not (.lt (.il 12) (.toI (.get (.vv 0) (.il 0))))), .ask (.lt (.len (.get (.vv 0) (.il 1))) (.il 1))]) := by kernel_rfl
theorem p3 : last K 45 45 [false, false, false, true] s0 = some ((.ofB (.bl false)), [.ask (.not (.lt (.toI (.get (.vv 0) (.il 0))) (.il 1))), .ask (.not (.lt (.il 12) (.toI (.get (.vv 0) (.il 0))))), .ask (.not (.lt (.len (.get (.vv 0) (.il 1))) (.il 1))), .ask (.lt (.il 4) (.len (.get (.vv 0) (.il 1))))]) := by kernel_rfl
theorem p4 : last K 45 45 [false, false, false, false, true] s0 = some ((.ofB (.bl false)), [.ask (.not (.lt (.toI (.get (.vv 0) (.il 0))) (.il 1))), .ask (.not (.lt (.il 12) (.toI (.get (.vv 0) (.il 0))))), .ask (.not (.lt (.len (.get (.vv 0) (.il 1))) (.il 1))), .ask (.not (.lt (.il 4) (.len (.get (.vv 0) (.il 1))))), .ask (.not (.eq (.len (.get (.vv 0) (.il 3))) (.len (.get (.vv 0) (.il 1)))))]) := by kernel_rfl
theorem p5 : last K 45 87 [false, false, false, false, false, true, true, true, true] s0 = some ((.ofB (.toB (.vv 3))), [.ask (.not (.lt (.toI (.get (.vv 0) (.il 0))) (.il 1))), .ask (.not (.lt (.il 12) (.toI (.get (.vv 0) (.il 0))))), .ask (.not (.lt (.len (.get (.vv 0) (.il 1))) (.il 1))), .ask (.not (.lt (.il 4) (.len (.get (.vv 0) (.il 1))))), .ask (.not (.not (.eq (.len (.get (.vv 0) (.il 3))) (.len (.get (.vv 0) (.il 1)))))), .ask (.lt (.il 0) (.len (.get (.vv 0) (.il 3)))), .ask (.le (.il 1) (.len (.get (.get (.vv 0) (.il 3)) (.il 0)))), .ask (.le (.len (.get (.get (.vv 0) (.il 3)) (.il 0))) (.il 4)), .call 79 [(.get (.vv 0) (.il 1)), (.ofI (.len (.get (.vv 0) (.il 1)))), (.ofI (.toI (.get (.vv 0) (.il 0))))], .ask (.toB (.vv 1)), .call 80 [(.get (.vv 0) (.il 2)), (.ofI (.len (.get (.vv 0) (.il 1)))), (.ofI (.len (.get (.vv 0) (.il 1)))), (.ofI (.toI (.get (.vv 0) (.il 0))))], .ask (.toB (.vv 2)), .call 80 [(.get (.vv 0) (.il 3)), (.ofI (.len (.get (.vv 0) (.il 1)))), (.ofI (.len (.get (.get (.vv 0) (.il 3)) (.il 0)))), (.ofI (.toI (.get (.vv 0) (.il 0))))]]) := by kernel_rfl
theorem p6 : last K 45 87 [false, false, false, false, false, true, true, true, false] s0 = some ((.ofB (.bl false)), [.ask (.not (.lt (.toI (.get (.vv 0) (.il 0))) (.il 1))), .ask (.not (.lt (.il 12) (.toI (.get (.vv 0) (.il 0))))), .ask (.not (.lt (.len (.get (.vv 0) (.il 1))) (.il 1))), .ask (.not (.lt (.il 4) (.len (.get (.vv 0) (.il 1))))), .ask (.not (.not (.eq (.len (.get (.vv 0) (.il 3))) (.len (.get (.vv 0) (.il 1)))))), .ask (.lt (.il 0) (.len (.get (.vv 0) (.il 3)))), .ask (.le (.il 1) (.len (.get (.get (.vv 0) (.il 3)) (.il 0)))), .ask (.le (.len (.get (.get (.vv 0) (.il 3)) (.il 0))) (.il 4)), .call 79 [(.get (.vv 0) (.il 1)), (.ofI (.len (.get (.vv 0) (.il 1)))), (.ofI (.toI (.get (.vv 0) (.il 0))))], .ask (.toB (.vv 1)), .call 80 [(.get (.vv 0) (.il 2)), (.ofI (.len (.get (.vv 0) (.il 1)))), (.ofI (.len (.get (.vv 0) (.il 1)))), (.ofI (.toI (.get (.vv 0) (.il 0))))], .ask (.not (.toB (.vv 2)))]) := by kernel_rfl
theorem p7 : last K 45 87 [false, false, false, false, false, true, true, false] s0 = some ((.ofB (.bl false)), [.ask (.not (.lt (.toI (.get (.vv 0) (.il 0))) (.il 1))), .ask (.not (.lt (.il 12) (.toI (.get (.vv 0) (.il 0))))), .ask (.not (.lt (.len (.get (.vv 0) (.il 1))) (.il 1))), .ask (.not (.lt (.il 4) (.len (.get (.vv 0) (.il 1))))), .ask (.not (.not (.eq (.len (.get (.vv 0) (.il 3))) (.len (.get (.vv 0) (.il 1)))))), .ask (.lt (.il 0) (.len (.get (.vv 0) (.il 3)))), .ask (.le (.il 1) (.len (.get (.get (.vv 0) (.il 3)) (.il 0)))), .ask (.le (.len (.get (.get (.vv 0) (.il 3)) (.il 0))) (.il 4)), .call 79 [(.get (.vv 0) (.il 1)), (.ofI (.len (.get (.vv 0) (.il 1)))), (.ofI (.toI (.get (.vv 0) (.il 0))))], .ask (.not (.toB (.vv 1)))]) := by kernel_rfl
theorem p8 : last K 45 87 [false, false, false, false, false, true, false] s0 = some ((.ofB (.bl false)), [.ask (.not (.lt (.toI (.get (.vv 0) (.il 0))) (.il 1))), .ask (.not (.lt (.il 12) (.toI (.get (.vv 0) (.il 0))))), .ask (.not (.lt (.len (.get (.vv 0) (.il 1))) (.il 1))), .ask (.not (.lt (.il 4) (.len (.get (.vv 0) (.il 1))))), .ask (.not (.not (.eq (.len (.get (.vv 0) (.il 3))) (.len (.get (.vv 0) (.il 1)))))), .ask (.lt (.il 0) (.len (.get (.vv 0) (.il 3)))), .ask (.le (.il 1) (.len (.get (.get (.vv 0) (.il 3)) (.il 0)))), .ask (.not (.le (.len (.get (.get (.vv 0) (.il 3)) (.il 0))) (.il 4)))]) := by kernel_rfl
theorem p9 : last K 45 87 [false, false, false, false, false, false] s0 = some ((.ofB (.bl false)), [.ask (.not (.lt (.toI (.get (.vv 0) (.il 0))) (.il 1))), .ask (.not (.lt (.il 12) (.toI (.get (.vv 0) (.il 0))))), .ask (.not (.lt (.len (.get (.vv 0) (.il 1))) (.il 1))), .ask (.not (.lt (.il 4) (.len (.get (.vv 0) (.il 1))))), .ask (.not (.not (.eq (.len (.get (.vv 0) (.il 3))) (.len (.get (.vv 0) (.il 1)))))), .ask (.lt (.il 0) (.len (.get (.vv 0) (.il 3)))), .ask (.not (.le (.il 1) (.len (.get (.get (.vv 0) (.il 3)) (.il 0)))))]) := by kernel_rfl
theorem b : sbegin prog 45 = some s0 := by kernel_rfl
end hvalid
end X
namespace X
open Go Go.Abs Go.Sym
namespace rrow
abbrev f : Nat := 46
noncomputable def K : Cfg := ⟨prog, pl, [], [], []⟩
noncomputable def s0 : SMach := ⟨⟨46, 43, (m (.pure 3 (.vv 0) (q 0 0)) (l (.int .i64 (.toI (.vv 1)))) (l (.int .i64 (.toI (.vv 2)))) z z), [.code (C 46 [])], [], .run, false, none⟩, [], ⟨0, 3, 3, z⟩⟩
noncomputable def s1 : SMach := ⟨⟨46, 43, (m (.pure 3 (.vv 0) (q 3 0)) (l (.int .i64 (.toI (.vv 1)))) (l (.int .i64 (.toI (.vv 2)))) (n (l (.int .i64 (.iv 0))) z z z) (n (l (.int .i64 (.iv 1))) z z z)), [.code (C 46 [1, 1, 0, 1, 0, 0]), .inLoop (C 46 [1, 1, 0, 1, 0, 0]), .inBlock 0, .code (C 46 [1, 1, 1])], [], .run, false, none⟩, [], ⟨0, 4, 3, z⟩⟩
theorem p0 : stretch K 15 [] s0 s1 [] ⟨[(.il 0), (.il 0)], [], [(.vv 0), (.vv 1), (.vv 2)], (Z [0, 1, 2, 0])⟩ [] = some (s1, []) := by kernel_rfl
theorem p1 : last K 46 35 [true, true] s1 = some ((.ofB (.bl false)), [.ask (.lt (.iv 1) (.len (.vv 0))), .ask (IB (.iv 1) (.vv 0)), .ask (.lt (.toI (.get (.vv 0) (.iv 1))) (.il 0))]) := by kernel_rfl
theorem p2 : last K 46 35 [true, false, true] s1 = some ((.ofB (.bl false)), [.ask (.lt (.iv 1) (.len (.vv 0))), .ask (IB (.iv 1) (.vv 0)), .ask (.not (.lt (.toI (.get (.vv 0) (.iv 1))) (.il 0))), .ask (IB (.iv 1) (.vv 0)), .ask (.lt (.toI (.vv 2)) (.toI (.get (.vv 0) (.iv 1))))]) := by kernel_rfl
theorem p3 : stretch K 47 [true, false, false] s1 s1 [] ⟨[(.add (.iv 0) (.toI (.get (.vv 0) (.iv 1)))), (.add (.iv 1) (.il 1))], [], [(.vv 0), (.vv 1), (.vv 2)], (Z [0, 1, 2, 3])⟩ [] = some (s1, [.ask (.lt (.iv 1) (.len (.vv 0))), .ask (IB (.iv 1) (.vv 0)), .ask (.not (.lt (.toI (.get (.vv 0) (.iv 1))) (.il 0))), .ask (IB (.iv 1) (.vv 0)), .ask (.not (.lt (.toI (.vv 2)) (.toI (.get (.vv 0) (.iv 1))))), .ask (IB (.iv 1) (.vv 0)), .ask (FT (.add (.iv 0) (.toI (.get (.vv 0) (.iv 1))))), .ask (FT (.add (.iv 1) (.il 1)))]) := by kernel_rfl
theorem p4 : last K 46 24 [false, true] s1 = some ((.ofB (.eq (.iv 0) (.toI (.vv 2)))), [.ask (.not (.lt (.iv 1) (.len (.vv 0)))), .ask (.eq (.len (.vv 0)) (.toI (.vv 1)))]) := by kernel_rfl
theorem p5 : last K 46 24 [false, false] s1 = some ((.ofB (.bl false)), [.ask (.not (.lt (.iv 1) (.len (.vv 0)))), .ask (.not (.eq (.len (.vv 0)) (.toI (.vv 1))))]) := by kernel_rfl
theorem b : sbegin prog 46 = some s0 := by kernel_rfl
end rrow
end X
namespace X
open Go Go.Abs Go.Sym
namespace rRight
abbrev f : Nat := 13
noncomputable def K : Cfg := ⟨prog, pl, [], [46], []⟩
noncomputable def s0 : SMach := ⟨⟨13, 86, (l (.agg [(.int .i64 (.toI (.get (.vv 0) (.il 0)))), (.pure 3 (.get (.vv 0) (.il 1)) (q 0 1)), (.pure 27 (.get (.vv 0) (.il 2)) (q 0 2)), (.pure 27 (.get (.vv 0) (.il 3)) (q 0 3))])), [.code (C 13 [])], [], .run, false, none⟩, [], ⟨0, 1, 1, z⟩⟩
noncomputable def s1 : SMach := ⟨⟨13, 86, (n (m (.addr 0 0) (l (.int .i64 (.iv 0))) z z z) z (l (.int .i64 (.len (.get (.vv 0) (.il 1))))) (l (.int .i64 (.len (.get (.get (.vv 0) (.il 3)) (.il 0)))))), [.code (C 13 [1, 1, 1, 1, 1, 0, 1, 0, 0]), .inLoop (C 13 [1, 1, 1, 1, 1, 0, 1, 0, 0]), .inBlock 0, .code (C 13 [1, 1, 1, 1, 1, 1])], [], .run, false, none⟩, [], ⟨1, 5, 2, (l (.cells [(.int .i64 (.toI (.get (.vv 0) (.il 0)))), (.pure 3 (.get (.vv 0) (.il 1)) (q 2 0)), (.pure 27 (.get (.vv 0) (.il 2)) (q 3 0)), (.pure 27 (.get (.vv 0) (.il 3)) (q 4 0))]))⟩⟩
theorem p0 : last K 13 61 [true] s0 = some ((.ofB (.bl false)), [.ask (.lt (.toI (.get (.vv 0) (.il 0))) (.il 1))]) := by kernel_rfl
theorem p1 : last K 13 61 [false, true] s0 = some ((.ofB (.bl false)), [.ask (.not (.lt (.toI (.get (.vv 0) (.il 0))) (.il 1))), .ask (.lt (.il 12) (.toI (.get (.vv 0) (.il 0))))]) := by kernel_rfl
theorem p2 : last K 13 61 [false, false, true] s0 = some ((.ofB (.bl false)), [.ask (.not (.lt (.toI (.get (.vv 0) (.il 0))) (.il 1))), .ask (.not (.lt (.il 12) (.toI (.get (.vv 0) (.il 0))))), .ask (.lt (.len (.get (.vv 0) (.il 1))) (.il 1))]) := by kernel_rfl
theorem p3 : last K 13 61 [false, false, false, true] s0 = some ((.ofB (.bl false)), [.ask (.not (.lt (.toI (.get (.vv 0) (.il 0))) (.il 1))), .ask (.not (.lt (.il 12) (.toI (.get (.vv 0) (.il 0))))), .ask (.not (.lt (.len (.get (.vv 0) (.il 1))) (.il 1))), .ask (.lt (.il 4) (.len (.get (.vv 0) (.il 1))))]) := by kernel_rfl
theorem p4 : last K 13 61 [false, false, false, false, true] s0 = some ((.ofB (.bl false)), [.ask (.not (.lt (.toI (.get (.vv 0) (.il 0))) (.il 1))), .ask (.not (.lt (.il 12) (.toI (.get (.vv 0) (.il 0))))), .ask (.not (.lt (.len (.get (.vv 0) (.il 1))) (.il 1))), .ask (.not (.lt (.il 4) (.len (.get (.vv 0) (.il 1))))), .call 46 [(.get (.vv 0) (.il 1)), (.ofI (.len (.get (.vv 0) (.il 1)))), (.ofI (.toI (.get (.vv 0) (.il 0))))], .ask (.not (.toB (.vv 1)))]) := by kernel_rfl
theorem p5 : last K 13 61 [false, false, false, false, false, true] s0 = some ((.ofB (.bl false)), [.ask (.not (.lt (.toI (.get (.vv 0) (.il 0))) (.il 1))), .ask (.not (.lt (.il 12) (.toI (.get (.vv 0) (.il 0))))), .ask (.not (.lt (.len (.get (.vv 0) (.il 1))) (.il 1))), .ask (.not (.lt (.il 4) (.len (.get (.vv 0) (.il 1))))), .call 46 [(.get (.vv 0) (.il 1)), (.ofI (.len (.get (.vv 0) (.il 1)))), (.ofI (.toI (.get (.vv 0) (.il 0))))], .ask (.not (.not (.toB (.vv 1)))), .ask (.not (.eq (.len (.get (.vv 0) (.il 2))) (.len (.get (.vv 0) (.il 1)))))]) := by kernel_rfl
theorem p6 : last K 13 61 [false, false, false, false, false, false, true] s0 = some ((.ofB (.bl false)), [.ask (.not (.lt (.toI (.get (.vv 0) (.il 0))) (.il 1))), .ask (.not (.lt (.il 12) (.toI (.get (.vv 0) (.il 0))))), .ask (.not (.lt (.len (.get (.vv 0) (.il 1))) (.il 1))), .ask (.not (.lt (.il 4) (.len (.get (.vv 0) (.il 1))))), .call 46 [(.get (.vv 0) (.il 1)), (.ofI (.len (.get (.vv 0) (.il 1)))), (.ofI (.toI (.get (.vv 0) (.il 0))))], .ask (.not (.not (.toB (.vv 1)))), .ask (.not (.not (.eq (.len (.get (.vv 0) (.il 2))) (.len (.get (.vv 0) (.il 1)))))), .ask (.not (.eq (.len (.get (.vv 0) (.il 3))) (.len (.get (.vv 0) (.il 1)))))]) := by kernel_rfl
theorem p7 : last K 13 82 [false, false, false, false, false, false, false, true] s0 = some ((.ofB (.bl false)), [.ask (.not (.lt (.toI (.get (.vv 0) (.il 0))) (.il 1))), .ask (.not (.lt (.il 12) (.toI (.get (.vv 0) (.il 0))))), .ask (.not (.lt (.len (.get (.vv 0) (.il 1))) (.il 1))), .ask (.not (.lt (.il 4) (.len (.get (.vv 0) (.il 1))))), .call 46 [(.get (.vv 0) (.il 1)), (.ofI (.len (.get (.vv 0) (.il 1)))), (.ofI (.toI (.get (.vv 0) (.il 0))))], .ask (.not (.not (.toB (.vv 1)))), .ask (.not (.not (.eq (.len (.get (.vv 0) (.il 2))) (.len (.get (.vv 0) (.il 1)))))), .ask (.not (.not (.eq (.len (.get (.vv 0) (.il 3))) (.len (.get (.vv 0) (.il 1)))))), .ask (.lt (.il 0) (.len (.get (.vv 0) (.il 3)))), .ask (.lt (.len (.get (.get (.vv 0) (.il 3)) (.il 0))) (.il 1))]) := by kernel_rfl
theorem p8 : last K 13 82 [false, false, false, false, false, false, false, false, true] s0 = some ((.ofB (.bl false)), [.ask (.not (.lt (.toI (.get (.vv 0) (.il 0))) (.il 1))), .ask (.not (.lt (.il 12) (.toI (.get (.vv 0) (.il 0))))), .ask (.not (.lt (.len (.get (.vv 0) (.il 1))) (.il 1))), .ask (.not (.lt (.il 4) (.len (.get (.vv 0) (.il 1))))), .call 46 [(.get (.vv 0) (.il 1)), (.ofI (.len (.get (.vv 0) (.il 1)))), (.ofI (.toI (.get (.vv 0) (.il 0))))], .ask (.not (.not (.toB (.vv 1)))), .ask (.not (.not (.eq (.len (.get (.vv 0) (.il 2))) (.len (.get (.vv 0) (.il 1)))))), .ask (.not (.not (.eq (.len (.get (.vv 0) (.il 3))) (.len (.get (.vv 0) (.il 1)))))), .ask (.lt (.il 0) (.len (.get (.vv 0) (.il 3)))), .ask (.not (.lt (.len (.get (.get (.vv 0) (.il 3)) (.il 0))) (.il 1))), .ask (.lt (.il 4) (.len (.get (.get (.vv 0) (.il 3)) (.il 0))))]) := by kernel_rfl
theorem p9 : stretch K 85 [false, false, false, false, false, false, false, false, false] s0 s1 [] ⟨[(.il 0)], [], [(.vv 0), (.vv 1)], [(q 0 0), (q 1 0), (q 0 1), (q 0 2), (q 0 3)]⟩ [(0, (some 0))] = some (s1, [.ask (.not (.lt (.toI (.get (.vv 0) (.il 0))) (.il 1))), .ask (.not (.lt (.il 12) (.toI (.get (.vv 0) (.il 0))))), .ask (.not (.lt (.len (.get (.vv 0) (.il 1))) (.il 1))), .ask (.not (.lt (.il 4) (.len (.get (.vv 0) (.il 1))))), .call 46 [(.get (.vv 0) (.il 1)), (.ofI (.len (.get (.vv 0) (.il 1)))), (.ofI (.toI (.get (.vv 0) (.il 0))))], .ask (.not (.not (.toB (.vv 1)))), .ask (.not (.not (.eq (.len (.get (.vv 0) (.il 2))) (.len (.get (.vv 0) (.il 1)))))), .ask (.not (.not (.eq (.len (.get (.vv 0) (.il 3))) (.len (.get (.vv 0) (.il 1)))))), .ask (.lt (.il 0) (.len (.get (.vv 0) (.il 3)))), .ask (.not (.lt (.len (.get (.get (.vv 0) (.il 3)) (.il 0))) (.il 1))), .ask (.not (.lt (.il 4) (.len (.get (.get (.vv 0) (.il 3)) (.il 0)))))]) := by kernel_rfl
theorem p10 : last K 13 42 [true, true] s1 = some ((.ofB (.bl false)), [.ask (.lt (.iv 0) (.len (.get (.vv 0) (.il 1)))), .ask (IB (.iv 0) (.get (.vv 0) (.il 2))), .call 46 [(.get (.get (.vv 0) (.il 2)) (.iv 0)), (.ofI (.len (.get (.vv 0) (.il 1)))), (.ofI (.toI (.get (.vv 0) (.il 0))))], .ask (.not (.toB (.vv 2)))]) := by kernel_rfl
theorem p11 : last K 13 42 [true, false, true] s1 = some ((.ofB (.bl false)), [.ask (.lt (.iv 0) (.len (.get (.vv 0) (.il 1)))), .ask (IB (.iv 0) (.get (.vv 0) (.il 2))), .call 46 [(.get (.get (.vv 0) (.il 2)) (.iv 0)), (.ofI (.len (.get (.vv 0) (.il 1)))), (.ofI (.toI (.get (.vv 0) (.il 0))))], .ask (.not (.not (.toB (.vv 2)))), .ask (IB (.iv 0) (.get (.vv 0) (.il 3))), .call 46 [(.get (.get (.vv 0) (.il 3)) (.iv 0)), (.ofI (.len (.get (.get (.vv 0) (.il 3)) (.il 0)))), (.ofI (.toI (.get (.vv 0) (.il 0))))], .ask (.not (.toB (.vv 3)))]) := by kernel_rfl
theorem p12 : stretch K 45 [true, false, false] s1 s1 [] ⟨[(.add (.iv 0) (.il 1))], [], [(.vv 0), (.vv 1)], (Z [0, 1, 2, 3, 4])⟩ [(0, (some 0))] = some (s1, [.ask (.lt (.iv 0) (.len (.get (.vv 0) (.il 1)))), .ask (IB (.iv 0) (.get (.vv 0) (.il 2))), .call 46 [(.get (.get (.vv 0) (.il 2)) (.iv 0)), (.ofI (.len (.get (.vv 0) (.il 1)))), (.ofI (.toI (.get (.vv 0) (.il 0))))], .ask (.not (.not (.toB (.vv 2)))), .ask (IB (.iv 0) (.get (.vv 0) (.il 3))), .call 46 [(.get (.get (.vv 0) (.il 3)) (.iv 0)), (.ofI (.len (.get (.get (.vv 0) (.il 3)) (.il 0)))), (.ofI (.toI (.get (.vv 0) (.il 0))))], .ask (.not (.not (.toB (.vv 3)))), .ask (FT (.add (.iv 0) (.il 1)))]) := by kernel_rfl
theorem p13 : last K 13 14 [false] s1 = some ((.ofB (.bl true)), [.ask (.not (.lt (.iv 0) (.len (.get (.vv 0) (.il 1)))))]) := by kernel_rfl
theorem b : sbegin prog 13 = some s0 := by kernel_rfl
end rRight
end X
namespace X
open Go Go.Abs Go.Sym
namespace rSeen
abbrev f : Nat := 50
noncomputable def K : Cfg := ⟨prog, pl, [], [], []⟩
noncomputable def s0 : SMach := ⟨⟨50, 37, (m (.agg [(.int .i64 (.toI (.get (.vv 0) (.il 0)))), (.pure 3 (.get (.vv 0) (.il 1)) (q 0 1)), (.pure 27 (.get (.vv 0) (.il 2)) (q 0 2)), (.pure 27 (.get (.vv 0) (.il 3)) (q 0 3))]) (l (.pure 3 (.vv 1) (q 1 0))) z z z), [.code (C 50 [])], [], .run, false, none⟩, [], ⟨0, 2, 2, z⟩⟩
noncomputable def s1 : SMach := ⟨⟨50, 37, (n (m (.pure 3 (.vv 1) (q 2 0)) (l (.int .i64 (.iv 0))) z z z) (l (.addr 0 0)) z z), [.code (C 50 [1, 0, 1, 0, 0]), .inLoop (C 50 [1, 0, 1, 0, 0]), .inBlock 0, .code (C 50 [1, 1])], [], .run, false, none⟩, [], ⟨1, 6, 2, (l (.cells [(.int .i64 (.toI (.get (.vv 0) (.il 0)))), (.pure 3 (.get (.vv 0) (.il 1)) (q 3 0)), (.pure 27 (.get (.vv 0) (.il 2)) (q 4 0)), (.pure 27 (.get (.vv 0) (.il 3)) (q 5 0))]))⟩⟩
theorem p0 : stretch K 12 [] s0 s1 [] ⟨[(.il 0)], [], [(.vv 0), (.vv 1)], [(q 0 0), (q 1 0), (q 1 0), (q 0 1), (q 0 2), (q 0 3)]⟩ [(0, (some 0))] = some (s1, []) := by kernel_rfl
theorem p1 : last K 50 38 [true, true] s1 = some ((.ofB (.bl false)), [.ask (.lt (.iv 0) (.len (.vv 1))), .ask (IB (.iv 0) (.vv 1)), .ask (.lt (.toI (.get (.vv 1) (.iv 0))) (.il (-1)))]) := by kernel_rfl
theorem p2 : last K 50 38 [true, false, true] s1 = some ((.ofB (.bl false)), [.ask (.lt (.iv 0) (.len (.vv 1))), .ask (IB (.iv 0) (.vv 1)), .ask (.not (.lt (.toI (.get (.vv 1) (.iv 0))) (.il (-1)))), .ask (IB (.iv 0) (.vv 1)), .ask (.lt (.il 0) (.len (.get (.vv 0) (.il 3)))), .ask (.le (.len (.get (.get (.vv 0) (.il 3)) (.il 0))) (.toI (.get (.vv 1) (.iv 0))))]) := by kernel_rfl
theorem p3 : stretch K 41 [true, false, false] s1 s1 [] ⟨[(.add (.iv 0) (.il 1))], [], [(.vv 0), (.vv 1)], (Z [0, 1, 2, 3, 4, 5])⟩ [(0, (some 0))] = some (s1, [.ask (.lt (.iv 0) (.len (.vv 1))), .ask (IB (.iv 0) (.vv 1)), .ask (.not (.lt (.toI (.get (.vv 1) (.iv 0))) (.il (-1)))), .ask (IB (.iv 0) (.vv 1)), .ask (.lt (.il 0) (.len (.get (.vv 0) (.il 3)))), .ask (.not (.le (.len (.get (.get (.vv 0) (.il 3)) (.il 0))) (.toI (.get (.vv 1) (.iv 0))))), .ask (FT (.add (.iv 0) (.il 1)))]) := by kernel_rfl
theorem p4 : last K 50 23 [false, true] s1 = some ((.ofB (.le (.len (.vv 1)) (.il 8))), [.ask (.not (.lt (.iv 0) (.len (.vv 1)))), .ask (.le (.il 1) (.len (.vv 1)))]) := by kernel_rfl
theorem p5 : last K 50 23 [false, false] s1 = some ((.ofB (.bl false)), [.ask (.not (.lt (.iv 0) (.len (.vv 1)))), .ask (.not (.le (.il 1) (.len (.vv 1))))]) := by kernel_rfl
theorem b : sbegin prog 50 = some s0 := by kernel_rfl
end rSeen
end X
namespace X
open Go Go.Abs Go.Sym
namespace rErrors
abbrev f : Nat := 17
noncomputable def K : Cfg := ⟨prog, pl, [], [13, 50], []⟩
noncomputable def s0 : SMach := ⟨⟨17, 12, (m (.agg [(.int .i64 (.toI (.get (.vv 0) (.il 0)))), (.pure 3 (.get (.vv 0) (.il 1)) (q 0 1)), (.pure 27 (.get (.vv 0) (.il 2)) (q 0 2)), (.pure 27 (.get (.vv 0) (.il 3)) (q 0 3))]) (l (.pure 3 (.vv 1) (q 1 0))) z z z), [.code (C 17 [])], [], .run, false, none⟩, [], ⟨0, 2, 2, z⟩⟩
theorem p0 : last K 17 18 [true] s0 = some ((.ofI (.il 170)), [.call 13 [(HM (.vv 0))], .ask (.not (.toB (.vv 2)))]) := by kernel_rfl
theorem p1 : last K 17 28 [false, true] s0 = some ((.ofI (.il 2)), [.call 13 [(HM (.vv 0))], .ask (.not (.not (.toB (.vv 2)))), .call 50 [(HM (.vv 0)), (.vv 1)], .ask (.not (.toB (.vv 3)))]) := by kernel_rfl
theorem p2 : last K 17 29 [false, false] s0 = some ((.ofI (.il 0)), [.call 13 [(HM (.vv 0))], .ask (.not (.not (.toB (.vv 2)))), .call 50 [(HM (.vv 0)), (.vv 1)], .ask (.not (.not (.toB (.vv 3))))]) := by kernel_rfl
theorem b : sbegin prog 17 = some s0 := by kernel_rfl
end rErrors
end X
namespace X
open Go Go.Abs Go.Sym
namespace rShows
abbrev f : Nat := 56
noncomputable def K : Cfg := ⟨prog, pl, [], [], []⟩
noncomputable def s0 : SMach := ⟨⟨56, 19, (m (.agg [(.int .i64 (.toI (.get (.vv 0) (.il 0)))), (.pure 3 (.get (.vv 0) (.il 1)) (q 0 1)), (.pure 27 (.get (.vv 0) (.il 2)) (q 0 2)), (.pure 27 (.get (.vv 0) (.il 3)) (q 0 3))]) (l (.int .i64 (.toI (.vv 1)))) (l (.int .i64 (.toI (.vv 2)))) z z), [.code (C 56 [])], [], .run, false, none⟩, [], ⟨0, 3, 3, z⟩⟩
theorem p0 : last K 56 19 [true] s0 = some ((.ofI (.toI (.get (.vv 0) (.il 0)))), [.ask (.eq (.toI (.vv 2)) (.il (-1)))]) := by kernel_rfl
theorem p1 : last K 56 26 [false] s0 = some ((.ofI (.toI (.get (.get (.get (.vv 0) (.il 3)) (.toI (.vv 1))) (.toI (.vv 2))))), [.ask (.not (.eq (.toI (.vv 2)) (.il (-1)))), .ask (IB (.toI (.vv 1)) (.get (.vv 0) (.il 3))), .ask (IB (.toI (.vv 2)) (.get (.get (.vv 0) (.il 3)) (.toI (.vv 1))))]) := by kernel_rfl
theorem b : sbegin prog 56 = some s0 := by kernel_rfl
end rShows
end X
namespace X
open Go Go.Abs Go.Sym
namespace rWeight
abbrev f : Nat := 55
noncomputable def K : Cfg := ⟨prog, pl, [], [56], []⟩
noncomputable def s0 : SMach := ⟨⟨55, 54, (m (.agg [(.int .i64 (.toI (.get (.vv 0) (.il 0)))), (.pure 3 (.get (.vv 0) (.il 1)) (q 0 1)), (.pure 27 (.get (.vv 0) (.il 2)) (q 0 2)), (.pure 27 (.get (.vv 0) (.il 3)) (q 0 3))]) (l (.pure 3 (.vv 1) (q 1 0))) (l (.pure 3 (.vv 2) (q 2 0))) z z), [.code (C 55 [])], [], .run, false, none⟩, [], ⟨0, 3, 3, z⟩⟩
noncomputable def s1 : SMach := ⟨⟨55, 54, (n (l (.pure 3 (.vv 1) (q 3 0))) (l (.pure 3 (.vv 2) (q 4 0))) (m (.addr 0 0) (l (.int .i64 (.iv 0))) z z z) (n (l (.int .i64 (.iv 1))) z z z)), [.code (C 55 [1, 1, 0, 1, 0, 0]), .inLoop (C 55 [1, 1, 0, 1, 0, 0]), .inBlock 0, .code (C 55 [1, 1, 1])], [], .run, false, none⟩, [], ⟨1, 8, 3, (l (.cells [(.int .i64 (.toI (.get (.vv 0) (.il 0)))), (.pure 3 (.get (.vv 0) (.il 1)) (q 5 0)), (.pure 27 (.get (.vv 0) (.il 2)) (q 6 0)), (.pure 27 (.get (.vv 0) (.il 3)) (q 7 0))]))⟩⟩
theorem p0 : stretch K 16 [] s0 s1 [] ⟨[(.il 1), (.il 0)], [], [(.vv 0), (.vv 1), (.vv 2)], [(q 0 0), (q 1 0), (q 2 0), (q 1 0), (q 2 0), (q 0 1), (q 0 2), (q 0 3)]⟩ [(0, (some 0))] = some (s1, []) := by kernel_rfl
theorem p1 : stretch K 51 [true, true] s1 s1 [] ⟨[(.mul (.toI (.get (.get (.vv 0) (.il 1)) (.toI (.get (.vv 2) (.il 0))))) (.toI (.vv 3))), (.add (.iv 1) (.il 1))], [], [(.vv 0), (.vv 1), (.vv 2)], (Z [0, 1, 2, 3, 4, 5, 6, 7])⟩ [(0, (some 0))] = some (s1, [.ask (.lt (.iv 1) (.len (.vv 2))), .ask (.eq (.iv 1) (.il 0)), .ask (.lt (.il 0) (.len (.vv 2))), .ask (IB (.toI (.get (.vv 2) (.il 0))) (.get (.vv 0) (.il 1))), .ask (IB (.iv 1) (.vv 2)), .ask (IB (.iv 1) (.vv 1)), .call 56 [(HM (.vv 0)), (.ofI (.toI (.get (.vv 2) (.iv 1)))), (.ofI (.toI (.get (.vv 1) (.iv 1))))], .ask (FT (.mul (.toI (.get (.get (.vv 0) (.il 1)) (.toI (.get (.vv 2) (.il 0))))) (.toI (.vv 3)))), .ask (FT (.add (.iv 1) (.il 1)))]) := by kernel_rfl
theorem p2 : stretch K 61 [true, false] s1 s1 [] ⟨[(.mul (.mul (.iv 0) (.toI (.get (.get (.get (.vv 0) (.il 2)) (.toI (.get (.vv 2) (.sub (.iv 1) (.il 1))))) (.toI (.get (.vv 2) (.iv 1)))))) (.toI (.vv 3))), (.add (.iv 1) (.il 1))], [], [(.vv 0), (.vv 1), (.vv 2)], (Z [0, 1, 2, 3, 4, 5, 6, 7])⟩ [(0, (some 0))] = some (s1, [.ask (.lt (.iv 1) (.len (.vv 2))), .ask (.not (.eq (.iv 1) (.il 0))), .ask (FT (.sub (.iv 1) (.il 1))), .ask (IB (.sub (.iv 1) (.il 1)) (.vv 2)), .ask (IB (.toI (.get (.vv 2) (.sub (.iv 1) (.il 1)))) (.get (.vv 0) (.il 2))), .ask (IB (.iv 1) (.vv 2)), .ask (IB (.toI (.get (.vv 2) (.iv 1))) (.get (.get (.vv 0) (.il 2)) (.toI (.get (.vv 2) (.sub (.iv 1) (.il 1)))))), .ask (FT (.mul (.iv 0) (.toI (.get (.get (.get (.vv 0) (.il 2)) (.toI (.get (.vv 2) (.sub (.iv 1) (.il 1))))) (.toI (.get (.vv 2) (.iv 1))))))), .ask (IB (.iv 1) (.vv 2)), .ask (IB (.iv 1) (.vv 1)), .call 56 [(HM (.vv 0)), (.ofI (.toI (.get (.vv 2) (.iv 1)))), (.ofI (.toI (.get (.vv 1) (.iv 1))))], .ask (FT (.mul (.mul (.iv 0) (.toI (.get (.get (.get (.vv 0) (.il 2)) (.toI (.get (.vv 2) (.sub (.iv 1) (.il 1))))) (.toI (.get (.vv 2) (.iv 1)))))) (.toI (.vv 3)))), .ask (FT (.add (.iv 1) (.il 1)))]) := by kernel_rfl
theorem p3 : last K 55 16 [false] s1 = some ((.ofI (.iv 0)), [.ask (.not (.lt (.iv 1) (.len (.vv 2))))]) := by kernel_rfl
theorem b : sbegin prog 55 = some s0 := by kernel_rfl
end rWeight
end X
namespace X
open Go Go.Abs Go.Sym
namespace rPaths
abbrev f : Nat := 54
noncomputable def K : Cfg := ⟨prog, pl, [], [], []⟩
noncomputable def e0 : SV := .int .i64 (.toI (.get (.vv 0) (.il 0)))
noncomputable def s0 : SMach := ⟨⟨54, 44, (m (.agg [e0, (.pure 3 (.get (.vv 0) (.il 1)) (q 0 1)), (.pure 27 (.get (.vv 0) (.il 2)) (q 0 2)), (.pure 27 (.get (.vv 0) (.il 3)) (q 0 3))]) (l (.int .i64 (.toI (.vv 1)))) z z z), [.code (C 54 [])], [], .run, false, none⟩, [], ⟨0, 2, 2, z⟩⟩
noncomputable def s1 : SMach := ⟨⟨54, 44, (n (m (.int .i64 (.toI (.vv 1))) (l (.view 1)) z z z) (m (.addr 0 0) (l (.int .i64 (.iv 0))) z z z) z z), [.code (C 54 [1, 1, 0, 1, 0, 0]), .inLoop (C 54 [1, 1, 0, 1, 0, 0]), .inBlock 0, .code (C 54 [1, 1, 1])], [], .run, false, none⟩, [], ⟨2, 5, 3, (m (.cells [e0, (.pure 3 (.get (.vv 0) (.il 1)) (q 2 0)), (.pure 27 (.get (.vv 0) (.il 2)) (q 3 0)), (.pure 27 (.get (.vv 0) (.il 3)) (q 4 0))]) (l (.arr 27 (.vv 2) 0)) z z z)⟩⟩
noncomputable def s2 : SMach := ⟨⟨54, 44, (n (m (.int .i64 (.toI (.vv 1))) (l (.view 1)) z z z) (m (.addr 0 0) (l (.int .i64 (.iv 1))) z z z) (n (l (.view 2)) z z z) (n (l (.int .i64 (.iv 0))) z z z)), [.code (C 54 [1, 1, 0, 1, 0, 0, 1, 0, 0, 1, 0, 1, 0, 0]), .inLoop (C 54 [1, 1, 0, 1, 0, 0, 1, 0, 0, 1, 0, 1, 0, 0]), .inBlock 2, .code (C 54 [1, 1, 0, 1, 0, 0, 1, 0, 0, 1, 1]), .inBlock 1, .code (C 54 [1, 1, 0, 1, 0, 0, 1, 1]), .inLoop (C 54 [1, 1, 0, 1, 0, 0]), .inBlock 0, .code (C 54 [1, 1, 1])], [], .run, false, none⟩, [], ⟨3, 8, 4, (m (.cells [e0, (.pure 3 (.get (.vv 0) (.il 1)) (q 5 0)), (.pure 27 (.get (.vv 0) (.il 2)) (q 6 0)), (.pure 27 (.get (.vv 0) (.il 3)) (q 7 0))]) (l (.arr 27 (.vv 3) 0)) (l (.arr 27 (.vv 2) 0)) z z)⟩⟩
noncomputable def s3 : SMach := ⟨⟨54, 44, (n (m (.int .i64 (.toI (.vv 1))) (l (.view 1)) (l (.int .i64 (.iv 0))) z z) (m (.addr 0 0) (l (.int .i64 (.iv 2))) z z z) (n (l (.view 2)) z z z) (n (l (.int .i64 (.iv 1))) z z z)), [.code (C 54 [1, 1, 0, 1, 0, 0, 1, 0, 0, 1, 0, 1, 0, 0, 1, 0, 0, 1, 0, 0]), .inLoop (C 54 [1, 1, 0, 1, 0, 0, 1, 0, 0, 1, 0, 1, 0, 0, 1, 0, 0, 1, 0, 0]), .inBlock 4, .inBlock 3, .code (C 54 [1, 1, 0, 1, 0, 0, 1, 0, 0, 1, 0, 1, 0, 0, 1, 1]), .inLoop (C 54 [1, 1, 0, 1, 0, 0, 1, 0, 0, 1, 0, 1, 0, 0]), .inBlock 2, .code (C 54 [1, 1, 0, 1, 0, 0, 1, 0, 0, 1, 1]), .inBlock 1, .code (C 54 [1, 1, 0, 1, 0, 0, 1, 1]), .inLoop (C 54 [1, 1, 0, 1, 0, 0]), .inBlock 0, .code (C 54 [1, 1, 1])], [], .run, false, none⟩, [], ⟨3, 11, 4, (m (.cells [e0, (.pure 3 (.get (.vv 0) (.il 1)) (q 8 0)), (.pure 27 (.get (.vv 0) (.il 2)) (q 9 0)), (.pure 27 (.get (.vv 0) (.il 3)) (q 10 0))]) (l (.arr 27 (.vv 3) 0)) (l (.arr 27 (.vv 2) 0)) z z)⟩⟩
theorem p0 : stretch K 17 [] s0 s1 [] ⟨[(.il 0)], [], [(.vv 0), (.vv 1), (.snoc .emp .nil)], [(q 0 0), (q 1 0), (q 0 1), (q 0 2), (q 0 3)]⟩ [(0, (some 0)), (1, (some 1))] = some (s1, []) := by kernel_rfl
theorem p1 : stretch K 22 [true] s1 s2 [] ⟨[(.il 0), (.iv 0)], [], [(.vv 0), (.vv 1), .nil, (.vv 2)], (Z [0, 1, 2, 3, 4, 2, 3, 4])⟩ [(0, (some 0)), (1, (some 1)), (2, none)] = some (s2, [.ask (.lt (.iv 0) (.toI (.vv 1)))]) := by kernel_rfl
theorem p2 : last K 54 15 [false] s1 = some ((.vv 2), [.ask (.not (.lt (.iv 0) (.toI (.vv 1))))]) := by kernel_rfl
theorem p3 : stretch K 18 [true] s2 s3 [] ⟨[(.il 0), (.iv 0), (.iv 1)], [], [(.vv 0), (.vv 1), (.vv 2), (.vv 3)], (Z [0, 1, 2, 3, 4, 5, 6, 7, 5, 6, 7])⟩ [(0, (some 0)), (1, (some 1)), (2, (some 2))] = some (s3, [.ask (.lt (.iv 0) (.len (.vv 3)))]) := by kernel_rfl
theorem p4 : stretch K 21 [false] s2 s1 [] ⟨[(.add (.iv 1) (.il 1))], [], [(.vv 0), (.vv 1), (.vv 2)], (Z [0, 1, 5, 6, 7])⟩ [(0, (some 0)), (1, (some 2))] = some (s1, [.ask (.not (.lt (.iv 0) (.len (.vv 3)))), .ask (FT (.add (.iv 1) (.il 1)))]) := by kernel_rfl
theorem p5 : stretch K 39 [true] s3 s3 [] ⟨[(.add (.iv 0) (.il 1)), (.iv 1), (.iv 2)], [], [(.vv 0), (.vv 1), (.snoc (.vv 2) (.snoc (.app .nil (.get (.vv 3) (.iv 1))) (.ofI (.iv 0)))), (.vv 3)], (Z [0, 1, 2, 3, 4, 5, 6, 7, 8, 9, 10])⟩ [(0, (some 0)), (1, (some 1)), (2, (some 7))] = some (s3, [.ask (.lt (.iv 0) (.len (.get (.vv 0) (.il 1)))), .ask (IB (.iv 1) (.vv 3)), .ask (IB (.iv 1) (.vv 3)), .ask (.le (.len (.get (.vv 3) (.iv 1))) (.il 8796093021696)), .ask (.le (.add (.len (.app .nil (.get (.vv 3) (.iv 1)))) (.il 1)) (.il 8796093021696)), .ask (.le (.add (.len (.vv 2)) (.il 1)) (.il 2932031006890)), .ask (FT (.add (.iv 0) (.il 1)))]) := by kernel_rfl
theorem p6 : stretch K 18 [false] s3 s2 [] ⟨[(.add (.iv 1) (.il 1)), (.iv 2)], [], [(.vv 0), (.vv 1), (.vv 2), (.vv 3)], (Z [0, 1, 2, 3, 4, 8, 9, 10])⟩ [(0, (some 0)), (1, (some 1)), (2, (some 2))] = some (s2, [.ask (.not (.lt (.iv 0) (.len (.get (.vv 0) (.il 1))))), .ask (FT (.add (.iv 1) (.il 1)))]) := by kernel_rfl
theorem b : sbegin prog 54 = some s0 := by kernel_rfl
end rPaths
end X
namespace X
open Go Go.Abs Go.Sym
namespace rzeros
abbrev f : Nat := 52
noncomputable def K : Cfg := ⟨prog, pl, [(52, 17)], [], []⟩
noncomputable def s0 : SMach := ⟨⟨52, 20, (m (.agg [(.int .i64 (.toI (.get (.vv 0) (.il 0)))), (.pure 3 (.get (.vv 0) (.il 1)) (q 0 1)), (.pure 27 (.get (.vv 0) (.il 2)) (q 0 2)), (.pure 27 (.get (.vv 0) (.il 3)) (q 0 3))]) (l (.int .i64 (.toI (.vv 1)))) z z z), [.code (C 52 [])], [], .run, false, none⟩, [], ⟨0, 2, 2, z⟩⟩
noncomputable def s1 : SMach := ⟨⟨52, 20, (n (m (.int .i64 (.toI (.vv 1))) (l (.view 1)) z z z) (m (.addr 0 0) (l (.int .i64 (.iv 0))) z z z) z z), [.code (C 52 [1, 1, 0, 1, 0, 0]), .inLoop (C 52 [1, 1, 0, 1, 0, 0]), .inBlock 0, .code (C 52 [1, 1, 1])], [], .run, false, none⟩, [], ⟨2, 5, 3, (m (.cells [(.int .i64 (.toI (.get (.vv 0) (.il 0)))), (.pure 3 (.get (.vv 0) (.il 1)) (q 2 0)), (.pure 27 (.get (.vv 0) (.il 2)) (q 3 0)), (.pure 27 (.get (.vv 0) (.il 3)) (q 4 0))]) (l (.tree 27 (.vv 2) none)) z z z)⟩⟩
theorem p0 : stretch K 16 [] s0 s1 [] ⟨[(.il 0)], [], [(.vv 0), (.vv 1), .nil], [(q 0 0), (q 1 0), (q 0 1), (q 0 2), (q 0 3)]⟩ [(0, (some 0)), (1, none)] = some (s1, []) := by kernel_rfl
theorem p1 : stretch K 28 [true] s1 s1 [] ⟨[(.add (.iv 0) (.il 1))], [], [(.vv 0), (.vv 1), (.snoc (.vv 2) (.rep (.len (.get (.vv 0) (.il 1))) (.ofI (.il 0))))], (Z [0, 1, 2, 3, 4])⟩ [(0, (some 0)), (1, (some 4))] = some (s1, [.ask (.lt (.iv 0) (.toI (.vv 1))), .ask (.and (.le (.il 0) (.len (.get (.vv 0) (.il 1)))) (.le (.len (.get (.vv 0) (.il 1))) (.il 17592186044416))), .ask (.le (.add (.len (.vv 2)) (.il 1)) (.il 2932031006890)), .ask (FT (.add (.iv 0) (.il 1)))]) := by kernel_rfl
theorem p2 : lastO K 52 15 [false] s1 = some ((.vv 2), [.ask (.not (.lt (.iv 0) (.toI (.vv 1))))]) := by kernel_rfl
theorem b : sbegin prog 52 = some s0 := by kernel_rfl
end rzeros
end X
namespace X
open Go Go.Abs Go.Sym
namespace rshort
abbrev f : Nat := 53
noncomputable def K : Cfg := ⟨prog, pl, [], [], []⟩
noncomputable def s0 : SMach := ⟨⟨53, 19, (m (.agg [(.int .i64 (.toI (.get (.vv 0) (.il 0)))), (.pure 3 (.get (.vv 0) (.il 1)) (q 0 1)), (.pure 27 (.get (.vv 0) (.il 2)) (q 0 2)), (.pure 27 (.get (.vv 0) (.il 3)) (q 0 3))]) (l (.int .i64 (.toI (.vv 1)))) z z z), [.code (C 53 [])], [], .run, false, none⟩, [], ⟨0, 2, 2, z⟩⟩
noncomputable def s1 : SMach := ⟨⟨53, 19, (n (m (.int .i64 (.toI (.vv 1))) (l (.int .i64 (.iv 0))) z z z) (m (.addr 0 0) (l (.int .i64 (.iv 1))) z z z) z z), [.code (C 53 [1, 1, 0, 1, 0, 0]), .inLoop (C 53 [1, 1, 0, 1, 0, 0]), .inBlock 0, .code (C 53 [1, 1, 1])], [], .run, false, none⟩, [], ⟨1, 5, 2, (l (.cells [(.int .i64 (.toI (.get (.vv 0) (.il 0)))), (.pure 3 (.get (.vv 0) (.il 1)) (q 2 0)), (.pure 27 (.get (.vv 0) (.il 2)) (q 3 0)), (.pure 27 (.get (.vv 0) (.il 3)) (q 4 0))]))⟩⟩
theorem p0 : stretch K 16 [] s0 s1 [] ⟨[(.il 1), (.il 0)], [], [(.vv 0), (.vv 1)], [(q 0 0), (q 1 0), (q 0 1), (q 0 2), (q 0 3)]⟩ [(0, (some 0))] = some (s1, []) := by kernel_rfl
theorem p1 : stretch K 26 [true] s1 s1 [] ⟨[(.mul (.iv 0) (.len (.get (.vv 0) (.il 1)))), (.add (.iv 1) (.il 1))], [], [(.vv 0), (.vv 1)], (Z [0, 1, 2, 3, 4])⟩ [(0, (some 0))] = some (s1, [.ask (.lt (.iv 1) (.toI (.vv 1))), .ask (FT (.mul (.iv 0) (.len (.get (.vv 0) (.il 1))))), .ask (FT (.add (.iv 1) (.il 1)))]) := by kernel_rfl
theorem p2 : last K 53 16 [false] s1 = some ((.ofB (.le (.iv 0) (.il 1024))), [.ask (.not (.lt (.iv 1) (.toI (.vv 1))))]) := by kernel_rfl
theorem b : sbegin prog 53 = some s0 := by kernel_rfl
end rshort
end X
