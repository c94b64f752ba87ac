/- Texts of the claim: SymOwn, SymCall, SymStep, SymExec, SymRun, SymAdopt2, SymApi, SymClosed, AbsPost, SymLaw, Big, PathsBase, P_frac_gcd, P_frac_size, P_ref01_digits, P_ref01_cut, P_ref01_compare, P_ref01_times, P_ref01_minus, P_ref01_divide, P_ref01_gcd, P_ref01_value, P_ref01_made, P_ref01_Make, P_ref01_Of, P_frac_Make, P_lift_valid, P_lift_count, P_lift_power. -/
import Derived.Test.YtildjgdhdcoojaaZ09
import Derived.Test.YtildjgdhdcoojaaZ07
import Derived.ChangeSame
import Derived.RowKit3
import Derived.Carry
import Derived.KernelRfl
import Derived.Test.YtildjgdhdcoojaaProg
/- Contracts of functions whose result is ours. -/
namespace Go.Sym
open Go Go.Abs
set_option linter.unusedVariables false
set_option linter.unusedSimpArgs false

/-- A value of a type, with the blocks that it leads to. -/
def OVal (P : Program) (h : Heap) (t : TypeId) (x : V) (a : AV) (F : List Nat) : Prop :=
  ∃ cs, OV P h deep t x cs F ∧ ((isAggT P t = some true ∧ a = .agg cs) ∨ (isAggT P t = some false ∧ cs = [a]))
inductive ArgsO (P : Program) (h : Heap) : List TypeId → List V → List AV → List Nat → Prop
  | nil : ArgsO P h [] [] [] []
  | cons {t : TypeId} {x : V} {a : AV} {F G : List Nat} {ts : List TypeId} {xs : List V} {as_ : List AV} : OVal P h t x a F → ArgsO P h ts xs as_ G → ArgsO P h (t :: ts) (x :: xs) (a :: as_) (F ++ G)
def ResO (P : Program) (h : Heap) (ts : List TypeId) (r : V) (us : List AV) (F : List Nat) : Prop :=
  match ts with
  | [t] => ∃ u, us = [u] ∧ OVal P h t r u F
  | ts => ∃ rs, r = .list rs ∧ ArgsO P h ts rs us F
/-- f, called with these values, returns r, which lies in new memory that nobody else has; nothing that was there is written. -/
def FnO (P : Program) (f : FuncId) (xs : List V) (r : V) : Prop :=
  ∀ (h : Heap) (S : Nat → Prop) (as_ : List AV) (fn : Func), P.funcs[f]? = some fn → (∀ c, S c → c < h.next) → (∀ c, h.next ≤ c → h.get c = none) → ArgsR P h S fn.params.toList xs as_ →
  ∃ g, enter P f as_ false = some g ∧ ∀ callers, ∃ gE h' us F, h.next ≤ h'.next ∧ (∀ c, c < h.next → h'.get c = h.get c) ∧ (∀ c, h'.next ≤ c → h'.get c = none) ∧ ResO P h' fn.resultTypes.toList r us F ∧ F.Nodup ∧ (∀ a, a ∈ F → h.next ≤ a ∧ a < h'.next) ∧
    gE.fn = f ∧ gE.mode = .returning ∧ gE.defers = [] ∧ gE.deferred = false ∧ aresults P h' gE.tm fn.results.toList = some us ∧ Leads P ⟨g, callers, h⟩ ⟨gE, callers, h'⟩

section
variable {P : Program} {h h' : Heap} {H : Hid} {ρ : Env} {h0 : Heap} {sh : SHeap}
theorem OVal.pval {S : Nat → Prop} {t : TypeId} {x : V} {a : AV} {F : List Nat} (hF : ∀ c ∈ F, S c) (g : OVal P h t x a F) : PVal P h S t x a := by
  obtain ⟨cs, g1, g2⟩ := g
  exact ⟨cs, g1.pv hF, g2⟩
theorem ArgsO.args {S : Nat → Prop} {ts : List TypeId} {xs : List V} {us : List AV} {F : List Nat} (hF : ∀ c ∈ F, S c) (g : ArgsO P h ts xs us F) : ArgsR P h S ts xs us := by
  induction g with
  | nil => exact .nil
  | cons a b ih => exact .cons (a.pval fun c hc => hF c (by simp [hc])) (ih fun c hc => hF c (by simp [hc]))
theorem ResO.res {S : Nat → Prop} {ts : List TypeId} {r : V} {us : List AV} {F : List Nat} (hF : ∀ c ∈ F, S c) (g : ResO P h ts r us F) : ResR P h S ts r us := by
  unfold ResO at g
  unfold ResR
  split at g
  · obtain ⟨u, a, b⟩ := g
    exact ⟨u, a, b.pval hF⟩
  · obtain ⟨rs, a, b⟩ := g
    rename_i hne
    split
    · exact absurd rfl (hne _)
    · exact ⟨rs, a, b.args hF⟩
theorem FnO.fn {f : FuncId} {xs : List V} {r : V} (g : FnO P f xs r) : Fn P f xs r := by
  intro h S as_ fn h1 h2 h3 h4
  obtain ⟨e, e1, k⟩ := g h S as_ fn h1 h2 h3 h4
  refine ⟨e, e1, fun callers => ?_⟩
  obtain ⟨gE, h', us, F, q1, q2, q3, q4, q5, q6, q7⟩ := k callers
  exact ⟨gE, h', us, q1, q2, q3, q4.res fun c hc => .inr (q6 c hc), q7⟩

/-- The heap has grown. -/
theorem HR.grow (R : HR P h0 h H ρ sh) (hn : h.next ≤ h'.next) (hk : ∀ c, c < h.next → h'.get c = h.get c) (ho : ∀ c, h'.next ≤ c → h'.get c = none) : HExt h H h' H ∧ HR P h0 h' H ρ { sh with nv := sh.nv + 1 } := by
  have hx : HExt h H h' H := ⟨fun _ _ e => e, fun _ _ _ e => e, fun _ _ _ _ e => e, fun c hc => ⟨hc, fun _ e => by rw [hk c (R.S_lt c hc)]; exact e⟩⟩
  refine ⟨hx, ⟨?_, R.inj, R.ownS, fun a ha => by have := R.S_lt a ha; omega, by have := R.next; omega, fun c hc => by rw [hk c (by have := R.next; omega)]; exact R.keep c hc, R.nu_none, fun b l a n l1 => by have := R.nu_lt _ _ _ n l1; omega, R.ka, R.kb, ho, R.blk_lt, R.tr.step (fun _ _ e w => ⟨_, e, w, rfl⟩) (fun _ _ _ _ _ _ q => q) (fun _ _ _ _ e w n l => .inl ⟨_, _, _, e, w, n, l⟩) hn⟩⟩
  intro b o e
  exact ObjR.mono hx (fun w => ⟨rfl, fun a ha ob g => by rw [hk a (R.tr.lt _ _ e w a ha).2.2]; exact g⟩) (fun l a n1 l1 ob g => by rw [hk a (R.nu_lt _ _ _ n1 l1)]; exact g) (fun _ _ _ _ => rfl) (fun _ _ => rfl) (R.objs _ _ e)
theorem SDs.flat {H' : Hid} : ∀ {x : List SV} {u : List AV}, (x.all fun | .bool _ | .int _ _ | .str _ => true | _ => false) = true → SDs P h H ρ x u → SDs P h H' ρ x u
  | [], _, _, .nil => .nil
  | a :: x, _, e, .cons g1 g2 => by
    simp only [List.all_cons, Bool.and_eq_true] at e
    refine .cons ?_ (SDs.flat e.2 g2)
    have h1 := e.1
    cases g1 <;> first | cases h1 | skip
    · exact .bool _
    · exact .int _ _
    · rename_i q; exact .str q

/-- What stays free. -/
def StillFree (h0 : Heap) (H : Hid) (sh : SHeap) (H' : Hid) (sh' : SHeap) (F : List Nat) : Prop := ∀ a, Free h0 H sh a → a ∉ F → Free h0 H' sh' a
theorem foldl_none {α β : Type} (f : Option β → α → Option β) (hf : ∀ a, f none a = none) : ∀ l : List α, l.foldl f none = none
  | [] => rfl
  | a :: l => by rw [List.foldl_cons, hf, foldl_none f hf l]
theorem ownRes_rel : ∀ {d : Nat} {t : TypeId} {e : E} {sh sh' : SHeap} {svs : List SV} {H : Hid} {cs : List AV} {F : List Nat} {d' : Nat}, HR P h0 h H ρ sh → ownRes P d t e sh = some (sh', svs) → d' ≤ deep → OV P h d' t (e.v ρ) cs F → F.Nodup → (∀ a ∈ F, Free h0 H sh a ∧ a < h.next) →
    sh'.nv = sh.nv ∧ ∃ H', HExt h H h H' ∧ HR P h0 h H' ρ sh' ∧ SGrow h0 H H' ∧ SDs P h H' ρ svs cs ∧ StillFree h0 H sh H' sh' F := by
  intro d
  induction d with
  | zero => intro t e sh sh' svs H cs F d' R k; exact (Option.some_ne_none _ (k.symm.trans rfl)).elim
  | succ d ih =>
    intro t e sh sh' svs H cs F d' R k hd g hN hF
    unfold ownRes at k
    cases hsl : slicy P deep t with
    | false =>
      rw [hsl] at k
      simp only [cond_false] at k
      split at k
      case h_2 => cases k
      rename_i c hc
      obtain ⟨hall, k⟩ := cond_ok k
      cases k
      have hf := g.flatF hsl
      subst hf
      have hpv : PV P h H.S d' t (e.v ρ) cs := g.pv (by simp)
      have sds := cellsOf_rel (H := { H with κ := fun n => if n = 0 then cs else H.κ n }) (way := fun o => .cell 0 o) hd hpv hc (fun k av hk => by simpa [avOf] using hk)
      exact ⟨rfl, H, HExt.refl _ _, R, SGrow.refl _ _, sds.flat hall, fun a q _ => q⟩
    | true =>
      rw [hsl] at k
      simp only [cond_true] at k
      cases d' with
      | zero => exact g.elim
      | succ d' =>
      obtain ⟨g0, g⟩ := g
      split at k
      · rename_i et hu
        rw [hu] at g
        simp only at g
        obtain ⟨av, sz, rfl, g1, g2, g3⟩ := g
        split at k
        case h_2 => cases k
        rename_i z hz
        obtain ⟨hfin, k⟩ := cond_ok k
        cases k
        have hsh : ∀ (x : Nat) (o : SObj), (sh.new (innerObj P et e sh.next)).get x = some o → (x = sh.next ∧ o = innerObj P et e sh.next) ∨ (x ≠ sh.next ∧ ¬ False ∧ sh.get x = some o) := by
          intro x o ex
          rw [SHeap.get_new] at ex
          split at ex
          · rename_i q; cases ex; exact .inl ⟨q, rfl⟩
          · rename_i q; exact .inr ⟨q, id, ex⟩
        have still : ∀ {H' : Hid} {l : Loc} {G : List Nat}, (∀ a, H'.S a → H.S a) → (∀ x, x ≠ sh.next → H'.ν x = H.ν x ∧ H'.fp x = H.fp x) → H'.ν sh.next = some l → H'.fp sh.next = G → (∀ a, l.at = some a → a ∈ F) → (isTreeO (innerObj P et e sh.next) = true → ∀ a ∈ G, a ∈ F) → StillFree h0 H sh H' (sh.new (innerObj P et e sh.next)) F := by
          intro H' l G hS hν n f hl hG a q hna
          refine ⟨fun s => q.1 (hS a s), q.2.1, fun x o ex w gg => ?_⟩
          rcases hsh x o ex with ⟨rfl, rfl⟩ | ⟨hx, _, ex⟩
          · rcases gg with ⟨l', n', l1⟩ | ⟨t', m⟩
            · rw [n] at n'; cases n'; exact hna (hl _ l1)
            · rw [f] at m; exact hna (hG t' _ m)
          · refine q.2.2 x o ex w ?_
            obtain ⟨k1, k2⟩ := hν x hx
            rcases gg with ⟨l', n', l1⟩ | ⟨t', m⟩
            · rw [k1] at n'; exact .inl ⟨l', n', l1⟩
            · rw [k2] at m; exact .inr ⟨t', m⟩
        have hown : own (innerObj P et e sh.next) = true := by unfold innerObj; cases slicy P deep et <;> rfl
        rcases g3 with ⟨v1, rfl, rfl⟩ | ⟨li, ai, ci, Gi, v1, rfl, rfl, v4, v5⟩
        · obtain ⟨H', x1, R1, s1, n1, n2⟩ := R.make' (h' := h) (sh' := sh.new (innerObj P et e sh.next)) (o1 := innerObj P et e sh.next) (l := .nil) (acs := []) (G := []) (K := fun _ => False) (Nat.le_refl _) hsh rfl rfl hown (fun c _ => .inl rfl) R.none_
            (fun a q => by rcases q with q | ⟨_, q⟩; cases q; simp at q) (fun _ => ⟨List.nodup_nil, by simp⟩)
            (fun H' x n k f s => by
              unfold innerObj
              cases slicy P deep et with
              | true => exact .tree0 v1 n g1 g2 f
              | false => exact .arr0 v1 n g1 g2)
          exact ⟨rfl, H', x1, R1, s1, .cons (.view0 n1) .nil, still n2.1 n2.2.1 n1 n2.2.2 (fun a q => by cases q) (fun _ a q => by simp at q)⟩
        · obtain ⟨nd1, nd2⟩ := List.nodup_cons.1 hN
          have v5' : ORow sz (OV P h deep et) li ci Gi := v5.imp fun _ _ _ _ q => q.le (by omega)
          obtain ⟨H', x1, R1, s1, n1, n2⟩ := R.make' (h' := h) (sh' := sh.new (innerObj P et e sh.next)) (o1 := innerObj P et e sh.next) (l := .blk ai li.length sz) (acs := ci) (G := Gi) (K := fun _ => False) (Nat.le_refl _) hsh rfl rfl hown (fun c _ => .inl rfl) R.none_
            (fun a q => by
              rcases q with q | ⟨_, q⟩
              · simp only [Loc.at, Option.some.injEq] at q; subst q; exact .inl (hF _ (by simp))
              · exact .inl (hF _ (by simp [q])))
            (fun _ => ⟨nd2, fun a q => by simp only [Loc.at, Option.some.injEq] at q; subst q; exact nd1⟩)
            (fun H' x n k f s => by
              unfold innerObj
              cases hsl : slicy P deep et with
              | true => exact .tree v1 n ⟨g1, g2, rfl, v4⟩ (by rw [f]; exact v5')
              | false => exact .arr v1 n ⟨g1, g2, rfl, v4, v5'.toP fun _ _ K _ q => q.pv (by rw [q.flatF hsl]; simp)⟩ k)
          exact ⟨rfl, H', x1, R1, s1, .cons (.view n1) .nil, still n2.1 n2.2.1 n1 n2.2.2 (fun a q => by simp only [Loc.at, Option.some.injEq] at q; subst q; simp) (fun _ a q => by simp [q])⟩
      · rename_i fields hu
        rw [hu] at g
        simp only at g
        obtain ⟨xs, x1, x2⟩ := g
        have key : ∀ (fs : List Field) (j pos : Nat) (pre ys : List V) (cs : List AV) (F : List Nat) (sh : SHeap) (H : Hid) (sh' : SHeap) (acc svs : List SV), xs = pre ++ ys → pre.length = j → HR P h0 h H ρ sh → OFl P (OV P h d') fs pos ys cs F → F.Nodup → (∀ a ∈ F, Free h0 H sh a ∧ a < h.next) →
            (fs.zipIdx j).foldl (fun r f => match r with | some r => (match ownRes P d f.1.type (e.get' (.il (Int.ofNat f.2))) r.1 with | some q => some (q.1, r.2 ++ q.2) | none => none) | none => none) (some (sh, acc)) = some (sh', svs) →
            sh'.nv = sh.nv ∧ ∃ H' new, svs = acc ++ new ∧ HExt h H h H' ∧ HR P h0 h H' ρ sh' ∧ SGrow h0 H H' ∧ SDs P h H' ρ new cs ∧ StillFree h0 H sh H' sh' F := by
          intro fs
          induction fs with
          | nil =>
            intro j pos pre ys cs F sh H sh' acc svs _ _ R g hN hF hf
            simp at hf
            obtain ⟨rfl, rfl⟩ := hf
            obtain ⟨_, rfl, rfl⟩ := g
            exact ⟨rfl, H, [], by simp, HExt.refl _ _, R, SGrow.refl _ _, .nil, fun a q _ => q⟩
          | cons f fs ihf =>
            intro j pos pre ys cs F sh H sh' acc svs hx hp R g hN hF hf
            obtain ⟨x, ys', c, r, G, K, rfl, rfl, rfl, ho, ga, gb⟩ := g
            rw [List.zipIdx_cons, List.foldl_cons] at hf
            simp only at hf
            cases hv : ownRes P d f.type (e.get' (.il (Int.ofNat j))) sh with
            | none =>
              rw [hv] at hf
              rw [foldl_none _ (fun _ => rfl)] at hf
              cases hf
            | some q =>
              obtain ⟨sh1, sv1⟩ := q
              rw [hv] at hf
              simp only at hf
              have hval : (e.get' (.il (Int.ofNat j))).v ρ = x := by
                rw [get'_v, x1, hx]
                show (V.list (pre ++ x :: ys')).get (Int.ofNat j) = x
                rw [V.get_list, ← hp]; simp
              obtain ⟨n1, n2, n3⟩ := List.nodup_append.1 hN
              obtain ⟨w0, H1, w1, w2, w3, w4, w5⟩ := ih (d' := d') R hv (by omega) (by rw [hval]; exact ga) n1 (fun a ha => hF a (by simp [ha]))
              obtain ⟨z0, H2, new, z1, z2, z3, z4, z5, z6⟩ := ihf (j + 1) (pos + c.length) (pre ++ [x]) ys' r K sh1 H1 sh' (acc ++ sv1) svs (by rw [hx]; simp) (by simp [hp]) w2 gb n2 (fun a ha => by
                obtain ⟨q1, q2⟩ := hF a (by simp [ha])
                exact ⟨w5 a q1 (fun hg => n3 a hg a ha rfl), q2⟩) hf
              exact ⟨by rw [z0, w0], H2, sv1 ++ new, by rw [z1, List.append_assoc], w1.trans z2, z3, w3.trans z4, (w4.mono z2).append z5, fun a q hna => z6 a (w5 a q fun hg => hna (by simp [hg])) fun hk => hna (by simp [hk])⟩
        obtain ⟨z0, H', new, z1, z2⟩ := key fields.toList 0 0 [] xs cs F sh H sh' [] svs rfl rfl R x2 hN hF k
        simp only [List.nil_append] at z1
        subst z1
        exact ⟨z0, H', z2⟩
      · cases k
end
end Go.Sym
/- Calls by contract. -/
namespace Go.Sym
open Go Go.Abs
set_option linter.unusedVariables false
set_option linter.unusedSimpArgs false
section
variable {P : Program} {h h' : Heap} {H : Hid} {ρ : Env} {h0 : Heap} {sh : SHeap}

theorem freeze1_nv (sh : SHeap) (x : SV) : (freeze1 sh x).nv = sh.nv := by
  unfold freeze1; split
  · split <;> rfl
  · rfl
theorem freezes_nv : ∀ (l : List SV) (sh : SHeap), (freezes sh l).nv = sh.nv
  | [], _ => rfl
  | x :: l, sh => by
    show (freezes (freeze1 sh x) l).nv = _
    rw [freezes_nv l, freeze1_nv]

/-- Behind a call. -/
noncomputable def Hid.call (H : Hid) (n lo hi : Nat) (cs : List AV) : Hid :=
  { H with κ := fun m => if m = n then cs else H.κ m, S := fun c => H.S c ∨ (lo ≤ c ∧ c < hi) }
theorem HR.call (R : HR P h0 h H ρ sh) (hn : h.next ≤ h'.next) (hk : ∀ c, c < h.next → h'.get c = h.get c) (ho : ∀ c, h'.next ≤ c → h'.get c = none) (cs : List AV) :
    HExt h H h' (H.call sh.ats h.next h'.next cs) ∧ HR P h0 h' (H.call sh.ats h.next h'.next cs) ρ { sh with ats := sh.ats + 1, nv := sh.nv + 1 } := by
  have hx : HExt h H h' (H.call sh.ats h.next h'.next cs) := ⟨fun _ _ e => e, fun n j av e => by
      simp only [Hid.call]
      by_cases hm : n = sh.ats
      · subst hm; rw [R.ka _ (Nat.le_refl _)] at e; simp at e
      · rw [if_neg hm]; exact e,
    fun _ _ _ _ e => e, fun c hc => ⟨.inl hc, fun _ e => by rw [hk c (R.S_lt c hc)]; exact e⟩⟩
  refine ⟨hx, ⟨?_, R.inj, ?_, ?_, ?_, ?_, R.nu_none, ?_, ?_, R.kb, ho, R.blk_lt, R.tr.step (fun _ _ e w => ⟨_, e, w, rfl⟩) (fun b o a e w ha q => q.elim id fun q => by have := (R.tr.lt _ _ e w a ha).2.2; omega) (fun _ _ _ _ e w n l => .inl ⟨_, _, _, e, w, n, l⟩) hn⟩⟩
  · intro b o e
    refine ObjR.mono hx (fun w => ⟨rfl, fun a ha ob g => by rw [hk a (R.tr.lt _ _ e w a ha).2.2]; exact g⟩) ?_ (fun _ _ _ _ => rfl) ?_ (R.objs _ _ e)
    · intro l a n1 l1 ob g
      rw [hk a (R.nu_lt _ _ _ n1 l1)]; exact g
    · intro n hn'
      have := R.ka_lt hn'
      simp only [Hid.call]; rw [if_neg (by omega)]
  · intro b o l a e w n1 l1
    obtain ⟨q1, q2⟩ := R.ownS _ _ _ _ e w n1 l1
    have := R.nu_lt _ _ _ n1 l1
    exact ⟨fun q => q.elim q1 fun q => by omega, q2⟩
  · rintro a (q | q)
    · have := R.S_lt a q; omega
    · exact q.2
  · have := R.next; omega
  · intro c hc
    rw [hk c (by have := R.next; omega)]; exact R.keep c hc
  · intro b l a n1 l1
    have := R.nu_lt _ _ _ n1 l1; omega
  · intro n hn'
    have hn' : sh.ats + 1 ≤ n := hn'
    simp only [Hid.call]; rw [if_neg (by omega)]; exact R.ka _ (by omega)

theorem contract_rel (R : HR P h0 h H ρ sh) {f : FuncId} {as_ : List SV} {bs : List AV} {sh1 : SHeap} {es : List E} {v : SV} (g : SDs P h H ρ as_ bs) (k : scontract P sh f as_ = some (sh1, es, v)) (hf : Fn P f (es.map (E.v ρ)) (ρ.v.getD sh.nv .nil)) (callers : List AFrame) :
    sh1.nv = sh.nv + 1 ∧ ∃ fn gf gE h' H' us, P.funcs[f]? = some fn ∧ enter P f bs false = some gf ∧ HExt h H h' H' ∧ HR P h0 h' H' ρ sh1 ∧ SD P h' H' ρ v (packed us) ∧ SGrow h0 H H' ∧
      gE.fn = f ∧ gE.mode = .returning ∧ gE.defers = [] ∧ gE.deferred = false ∧ aresults P h' gE.tm fn.results.toList = some us ∧ Leads P ⟨gf, callers, h⟩ ⟨gE, callers, h'⟩ := by
  unfold scontract at k
  split at k
  · rename_i fn hfn
    simp only at k
    generalize hsl : fn.resultTypes.toList.any (slicy P deep) = sl at k
    -- the heap behind the freezing
    generalize hvw : cond sl (viewsOf as_) (innerViews as_) = vw at k
    obtain ⟨H0, x0, R0, s0⟩ := settleAll_rel (P := P) R
    obtain ⟨H1, x1, R1, s1⟩ := freezes_rel (P := P) vw R0
    have x1 := x0.trans x1
    have s1 := s0.trans s1
    have hnv := freezes_nv vw (settleAll P sh)
    rw [settleAll_nv] at hnv
    generalize freezes (settleAll P sh) vw = shz at k R1 hnv
    split at k
    · rename_i es' v' h1 h2
      cases k
      refine ⟨by simp [hnv], ?_⟩
      have ga := argsE_rel R1 (g.mono x1) h1
      obtain ⟨gf, f1, hf⟩ := hf h (argS h H1 (!sl)) bs fn hfn (by
        intro c hc
        cases sl
        · exact hc
        · exact R1.S_lt c hc) R1.none_ ga
      obtain ⟨gE, h', us, f2, f3, f4, f5, f6, f7, f8, f9, f10, f11⟩ := hf callers
      obtain ⟨x2, R2⟩ := R1.call f2 f3 f4 (us.flatMap AV.cells)
      refine ⟨fn, gf, gE, h', _, us, hfn, f1, x1.trans x2, R2, ?_, s1.trans ?_, f6, f7, f8, f9, f10, f11⟩
      · refine resultOf_rel (n := shz.ats) (e := .vv shz.nv) (ts := fn.resultTypes.toList) ?_ h2 (by simp [Hid.call])
        have : (E.vv shz.nv).v ρ = ρ.v.getD sh.nv .nil := by rw [hnv]; rfl
        rw [this]
        cases sl with
        | false => exact f5.flat hsl
        | true => exact f5
      · rintro a (q | q)
        · exact .inl q
        · have := R1.next; exact .inr (by omega)
    · cases k
  · cases k
theorem ownResults_rel {n : Nat} {rs : List V} {e : E} (he : e.v ρ = .list rs) : ∀ {ts : List TypeId} {j : Nat} {xs : List V} {us : List AV} {F : List Nat} {sh sh' : SHeap} {H : Hid} {vs : List SV}, HR P h0 h H ρ sh → ownResults P e j ts sh = some (sh', vs) → rs.drop j = xs → ArgsO P h ts xs us F → F.Nodup → (∀ a ∈ F, Free h0 H sh a ∧ a < h.next) →
    sh'.nv = sh.nv ∧ ∃ H', HExt h H h H' ∧ HR P h0 h H' ρ sh' ∧ SGrow h0 H H' ∧ SDs P h H' ρ vs us
  | [], j, xs, us, F, sh, sh', H, vs, R, k, hx, g, hN, hF => by
    cases k; cases g
    exact ⟨rfl, H, HExt.refl _ _, R, SGrow.refl _ _, .nil⟩
  | t :: ts, j, xs, us, F, sh, sh', H, vs, R, k, hx, g, hN, hF => by
    cases g with
    | cons ga gb =>
      rename_i x a F1 F2 xs' us'
      unfold ownResults at k
      split at k
      case h_2 => cases k
      rename_i q hq
      obtain ⟨sh1, cs1⟩ := q
      split at k
      case h_2 => cases k
      rename_i v q2 hv hq2
      obtain ⟨sh2, vs2⟩ := q2
      cases k
      obtain ⟨n1, n2, n3⟩ := List.nodup_append.1 hN
      have hxj : rs[j]? = some x := by
        have := congrArg List.head? hx
        simpa [List.head?_drop] using this
      obtain ⟨cs, o1, o2⟩ := ga
      have hval : (e.get' (.il (Int.ofNat j))).v ρ = x := by
        rw [get'_v, he]
        show (V.list rs).get (Int.ofNat j) = x
        rw [V.get_list, hxj]; rfl
      obtain ⟨w0, H1, w1, w2, w3, w4, w5⟩ := ownRes_rel (d' := deep) R hq (Nat.le_refl _) (by rw [hval]; exact o1) n1 (fun a ha => hF a (by simp [ha]))
      have hx' : rs.drop (j + 1) = xs' := by
        have : rs.drop (j + 1) = (rs.drop j).drop 1 := by rw [List.drop_drop]
        rw [this, hx]; rfl
      obtain ⟨z0, H2, z1, z2, z3, z4⟩ := ownResults_rel (n := n) he w2 hq2 hx' gb n2 (fun a ha => by
        obtain ⟨q1, q2⟩ := hF a (by simp [ha])
        exact ⟨w5 a q1 fun hg => n3 a hg a ha rfl, q2⟩)
      exact ⟨by rw [z0, w0], H2, w1.trans z1, z2, w3.trans z3, .cons ((packS_rel (x := x) w4 o2 hv).mono z1) z4⟩
theorem contractO_rel (R : HR P h0 h H ρ sh) {f : FuncId} {as_ : List SV} {bs : List AV} {sh1 : SHeap} {es : List E} {v : SV} (g : SDs P h H ρ as_ bs) (k : scontractO P sh f as_ = some (sh1, es, v)) (hf : FnO P f (es.map (E.v ρ)) (ρ.v.getD sh.nv .nil)) (callers : List AFrame) :
    sh1.nv = sh.nv + 1 ∧ ∃ fn gf gE h' H' us, P.funcs[f]? = some fn ∧ enter P f bs false = some gf ∧ HExt h H h' H' ∧ HR P h0 h' H' ρ sh1 ∧ SD P h' H' ρ v (packed us) ∧ SGrow h0 H H' ∧
      gE.fn = f ∧ gE.mode = .returning ∧ gE.defers = [] ∧ gE.deferred = false ∧ aresults P h' gE.tm fn.results.toList = some us ∧ Leads P ⟨gf, callers, h⟩ ⟨gE, callers, h'⟩ := by
  unfold scontractO at k
  split at k
  case h_2 => cases k
  rename_i fn hfn
  simp only at k
  obtain ⟨H0, x0, R0, s0⟩ := settleAll_rel (P := P) R
  have hnv : (settleAll P sh).nv = sh.nv := settleAll_nv sh
  generalize settleAll P sh = sz at k R0 hnv
  split at k
  case h_2 => cases k
  rename_i es' hes
  obtain ⟨H1, x1, R1, _⟩ := freezes_rel (P := P) (viewsOf as_) R0
  have ga := argsE_rel R1 ((g.mono x0).mono x1) hes
  -- the call
  have call : ∀ r, FnO P f (es'.map (E.v ρ)) r → ∃ gf, enter P f bs false = some gf ∧ ∃ gE h' us F, h.next ≤ h'.next ∧ (∀ c, c < h.next → h'.get c = h.get c) ∧ (∀ c, h'.next ≤ c → h'.get c = none) ∧ ResO P h' fn.resultTypes.toList r us F ∧ F.Nodup ∧ (∀ a, a ∈ F → h.next ≤ a ∧ a < h'.next) ∧
      gE.fn = f ∧ gE.mode = .returning ∧ gE.defers = [] ∧ gE.deferred = false ∧ aresults P h' gE.tm fn.results.toList = some us ∧ Leads P ⟨gf, callers, h⟩ ⟨gE, callers, h'⟩ := by
    intro r hf
    obtain ⟨gf, f1, hf⟩ := hf h (argS h H1 false) bs fn hfn (fun c hc => R1.S_lt c hc) R1.none_ ga
    exact ⟨gf, f1, hf callers⟩
  have free : ∀ {h' : Heap} {F : List Nat}, (∀ a, a ∈ F → h.next ≤ a ∧ a < h'.next) → ∀ a ∈ F, Free h0 H0 { sz with nv := sz.nv + 1 } a ∧ a < h'.next := by
    intro h' F hF a ha
    obtain ⟨q1, q2, q3⟩ := R0.free (hF a ha).1
    exact ⟨⟨q1, q2, q3⟩, (hF a ha).2⟩
  have hvv : (E.vv sz.nv).v ρ = ρ.v.getD sh.nv .nil := by rw [hnv]; rfl
  split at k
  · rename_i t ht
    split at k
    case h_2 => cases k
    rename_i q hq
    obtain ⟨sq, cq⟩ := q
    simp only [Option.map_eq_some_iff, Prod.mk.injEq] at k
    obtain ⟨v', hv, rfl, rfl, rfl⟩ := k
    obtain ⟨gf, f1, gE, h', us, F, f2, f3, f4, f5, f6, f7, f8⟩ := call _ hf
    obtain ⟨x2, R2⟩ := R0.grow f2 f3 f4
    unfold ResO at f5
    rw [ht] at f5
    simp only at f5
    obtain ⟨u, rfl, cs, o1, o2⟩ := f5
    obtain ⟨w0, H3, w1, w2, w3, w4, _⟩ := ownRes_rel (d' := deep) R2 hq (Nat.le_refl _) (by rw [hvv]; exact o1) f6 (free f7)
    refine ⟨by rw [w0]; show sz.nv + 1 = _; rw [hnv], fn, gf, gE, h', H3, [u], hfn, f1, (x0.trans x2).trans w1, w2, ?_, s0.trans w3, f8⟩
    exact packS_rel (x := .nil) w4 o2 hv
  · rename_i ts hne
    simp only [Option.map_eq_some_iff, Prod.mk.injEq] at k
    obtain ⟨⟨sq, cq⟩, hq, rfl, rfl, rfl⟩ := k
    obtain ⟨gf, f1, gE, h', us, F, f2, f3, f4, f5, f6, f7, f8⟩ := call _ hf
    obtain ⟨x2, R2⟩ := R0.grow f2 f3 f4
    unfold ResO at f5
    split at f5
    · rename_i t ht; exact absurd ht (hne _)
    · obtain ⟨rs, hr, f5⟩ := f5
      obtain ⟨w0, H3, w1, w2, w3, w4⟩ := ownResults_rel (n := 0) (e := .vv sz.nv) (by rw [hvv]; exact hr) R2 hq rfl f5 f6 (free f7)
      refine ⟨by rw [w0]; show sz.nv + 1 = _; rw [hnv], fn, gf, gE, h', H3, us, hfn, f1, (x0.trans x2).trans w1, w2, ?_, s0.trans w3, f8⟩
      cases w4 with
      | nil => exact .tuple .nil
      | cons a b =>
        cases b with
        | nil =>
          exfalso
          generalize hts : fn.resultTypes.toList = tl at f5
          cases f5 with
          | cons _ g2 => cases g2; exact hne _ hts
        | cons _ _ => exact .tuple (.cons a (.cons ‹_› ‹_›))
end

/-! ### What a run asks for -/
def EvOk (P : Program) (ρ : Env) : Nat → List Ev → Prop
  | _, [] => True
  | nv, .ask e :: l => e.b ρ = true ∧ EvOk P ρ nv l
  | nv, .call f es :: l => Fn P f (es.map (E.v ρ)) (ρ.v.getD nv .nil) ∧ EvOk P ρ (nv + 1) l
  | nv, .callO f es :: l => FnO P f (es.map (E.v ρ)) (ρ.v.getD nv .nil) ∧ EvOk P ρ (nv + 1) l
def ncalls : List Ev → Nat
  | [] => 0
  | .ask _ :: l => ncalls l
  | .call _ _ :: l => ncalls l + 1
  | .callO _ _ :: l => ncalls l + 1
theorem ncalls_append : ∀ (a b : List Ev), ncalls (a ++ b) = ncalls a + ncalls b
  | [], b => by simp [ncalls]
  | .ask _ :: a, b => by simp only [List.cons_append, ncalls]; exact ncalls_append a b
  | .call _ _ :: a, b => by simp only [List.cons_append, ncalls, ncalls_append a b]; omega
  | .callO _ _ :: a, b => by simp only [List.cons_append, ncalls, ncalls_append a b]; omega
theorem ncalls_asks (l : List E) : ncalls (asks l) = 0 := by
  induction l with
  | nil => rfl
  | cons a l ih => exact ih
theorem EvOk.append {P : Program} {ρ : Env} : ∀ {a b : List Ev} {nv : Nat}, EvOk P ρ nv (a ++ b) ↔ EvOk P ρ nv a ∧ EvOk P ρ (nv + ncalls a) b
  | [], b, nv => by simp [EvOk, ncalls]
  | .ask e :: a, b, nv => by simp only [List.cons_append, EvOk, ncalls, EvOk.append (a := a), and_assoc]
  | .call f es :: a, b, nv => by
    simp only [List.cons_append, EvOk, ncalls, EvOk.append (a := a), and_assoc]
    rw [show nv + (ncalls a + 1) = nv + 1 + ncalls a from by omega]
  | .callO f es :: a, b, nv => by
    simp only [List.cons_append, EvOk, ncalls, EvOk.append (a := a), and_assoc]
    rw [show nv + (ncalls a + 1) = nv + 1 + ncalls a from by omega]
theorem EvOk.asks {P : Program} {ρ : Env} {l : List E} {nv : Nat} : EvOk P ρ nv (asks l) ↔ Holds ρ l := by
  induction l with
  | nil => exact ⟨fun _ => by intro c hc; simp at hc, fun _ => trivial⟩
  | cons a l ih =>
    show (a.b ρ = true ∧ EvOk P ρ nv (Sym.asks l)) ↔ _
    rw [ih]
    exact ⟨fun ⟨h1, h2⟩ c hc => by rcases List.mem_cons.1 hc with rfl | hc; exact h1; exact h2 c hc, fun h => ⟨h a (by simp), fun c hc => h c (by simp [hc])⟩⟩
end Go.Sym
/- One step. -/
namespace Go.Sym
open Go Go.Abs
set_option linter.unusedVariables false
set_option linter.unusedSimpArgs false

theorem leads_step {P : Program} (K : ProgOk P) {pl : Plans} {m m' : AMach} (e : astep P pl m = some m') : Leads P m m' := fun I w0 μ c cs tl w r => astep_sim K e r

section
variable {C : Cfg} {h : Heap} {H : Hid} {ρ : Env} {h0 : Heap} {S0 : Nat → Prop} {outer : List AFrame} {sh : SHeap}

def Base (h0 : Heap) (S0 : Nat → Prop) (H : Hid) : Prop := ∀ a, H.S a → S0 a ∨ h0.next ≤ a
theorem Base.grow {H' : Hid} (b : Base h0 S0 H) (g : SGrow h0 H H') : Base h0 S0 H' := fun a ha => (g a ha).elim (b a) .inr

theorem svalue_rel (R : HR C.P h0 h H ρ sh) (B : Base h0 S0 H) {fr : SFrame} {f : AFrame} {callers : List SFrame} {cs : List AFrame} {v : SV} {u : AV} {ev : List Ev} {ch : List Bool} {o : Out} {nv : Nat} (gf : FR C.P h H ρ fr f) (gc : FRs C.P h H ρ callers cs) (gv : SD C.P h H ρ v u)
    (e : svalue C fr callers sh v ev ch = some o) (hev : EvOk C.P ρ nv o.ev) :
    ∃ f', afinish C.P h f u = some f' ∧ MR C.P h0 S0 outer ρ o.m { fr := f', callers := cs ++ outer, h } ∧ o.m.h = sh ∧ ∃ l, o.ev = ev ++ asks l := by
  unfold svalue at e
  simp only [Option.map_eq_some_iff] at e
  obtain ⟨⟨fr', l⟩, e1, rfl⟩ := e
  simp only at hev
  rw [EvOk.append, EvOk.asks] at hev
  obtain ⟨f', w1, w2⟩ := sfinish_rel R rfl gf gv e1 hev.2
  exact ⟨f', w1, ⟨H, cs, rfl, w2, gc, R, B⟩, rfl, l, rfl⟩

/-- The frame goes on with what an operation has come to. What the abstract machine does first: 'pre'. -/
theorem sapply_rel (K : ProgOk C.P) (R : HR C.P h0 h H ρ sh) (B : Base h0 S0 H) {fr : SFrame} {f : AFrame} {callers : List SFrame} {cs : List AFrame} {n : SNext} {an : ANext} {args : List SV} {aargs : List AV} {ev : List Ev} {ch : List Bool} {o : Out} {m : AMach} (hm : fr.mode = .run)
    (gf : FR C.P h H ρ fr f) (gc : FRs C.P h H ρ callers cs) (gn : NextR C.P h H ρ n an) (ga : SDs C.P h H ρ args aargs) (nv0 : Nat) (hnv : sh.nv = nv0 + ncalls ev)
    (e : sapply C fr callers n sh args ev ch = some o) (hev : EvOk C.P ρ nv0 o.ev) (pre : ∀ m', apply C.P f (cs ++ outer) an h aargs = some m' → Leads C.P m m') :
    (∃ m', Leads C.P m m' ∧ MR C.P h0 S0 outer ρ o.m m') ∧ o.m.h.nv = nv0 + ncalls o.ev := by
  have val : ∀ {v : SV} {u : AV} {f : AFrame} {fr : SFrame}, FR C.P h H ρ fr f → SD C.P h H ρ v u → svalue C fr callers sh v ev ch = some o → (∀ f', afinish C.P h f u = some f' → Leads C.P m ⟨f', cs ++ outer, h⟩) → (∃ m', Leads C.P m m' ∧ MR C.P h0 S0 outer ρ o.m m') ∧ o.m.h.nv = nv0 + ncalls o.ev := by
    intro v u f fr gf gv e k
    obtain ⟨f', w1, w2, w3, l, w4⟩ := svalue_rel R B (outer := outer) (S0 := S0) gf gc gv e hev
    refine ⟨⟨_, k f' w1, w2⟩, ?_⟩
    rw [w3, w4, ncalls_append, ncalls_asks]; omega
  unfold sapply at e
  cases gn with
  | value gv =>
    exact val gf gv e fun f' hf => pre _ (by simp only [apply, hf])
  | enter gargs =>
    rename_i fn as_ bs
    simp only at e
    cases hc : C.ctr.contains fn with
    | true =>
      rw [hc] at e
      simp only [cond_true] at e
      split at e
      · rename_i sh1 es v hk
        have hev2 := hev
        unfold svalue at e
        simp only [Option.map_eq_some_iff] at e
        obtain ⟨⟨fr', l⟩, e1, rfl⟩ := e
        simp only at hev ⊢
        rw [EvOk.append, EvOk.append] at hev
        obtain ⟨⟨_, hcall, _⟩, hl⟩ := hev
        rw [EvOk.asks] at hl
        rw [← hnv] at hcall
        obtain ⟨hn1, func, gfr, gE, h', H', us, c1, c2, c3, c4, c5, c6, c7, c8, c9, c10, c11, c12⟩ := contract_rel R gargs hk hcall (f :: (cs ++ outer))
        obtain ⟨f', w1, w2⟩ := sfinish_rel c4 rfl (gf.mono c3) c5 e1 hl
        refine ⟨⟨⟨f', cs ++ outer, h'⟩, ?_, ⟨H', cs, rfl, w2, gc.mono c3, c4, B.grow c6⟩⟩, ?_⟩
        · refine (pre ⟨gfr, f :: (cs ++ outer), h⟩ (by simp only [apply, c2])).trans (c12.trans (leads_step K (pl := C.pl) ?_))
          have hfm : f.mode = .run := by have := gf.mode; rw [hm] at this; exact this.run_iff
          have ar : areturn C.P gE (f :: (cs ++ outer)) (packed us) h' = some ⟨f', cs ++ outer, h'⟩ := by
            simp only [areturn, c10, cond_false, hfm, w1]
          unfold astep
          simp only [c8]
          unfold Abs.unwind
          simp only [c9, c8, c7, c1, c11]
          cases us with
          | nil => exact ar
          | cons a b => cases b <;> exact ar
        · rw [hn1, ncalls_append, ncalls_append, ncalls_asks]; simp only [ncalls]; omega
      · cases e
    | false =>
      rw [hc] at e
      simp only [cond_false] at e
      cases hcO : C.ctrO.contains fn with
      | true =>
        rw [hcO] at e
        simp only [cond_true] at e
        split at e
        · rename_i sh1 es v hk
          have hev2 := hev
          unfold svalue at e
          simp only [Option.map_eq_some_iff] at e
          obtain ⟨⟨fr', l⟩, e1, rfl⟩ := e
          simp only at hev ⊢
          rw [EvOk.append, EvOk.append] at hev
          obtain ⟨⟨_, hcall, _⟩, hl⟩ := hev
          rw [EvOk.asks] at hl
          rw [← hnv] at hcall
          obtain ⟨hn1, func, gfr, gE, h', H', us, c1, c2, c3, c4, c5, c6, c7, c8, c9, c10, c11, c12⟩ := contractO_rel R gargs hk hcall (f :: (cs ++ outer))
          obtain ⟨f', w1, w2⟩ := sfinish_rel c4 rfl (gf.mono c3) c5 e1 hl
          refine ⟨⟨⟨f', cs ++ outer, h'⟩, ?_, ⟨H', cs, rfl, w2, gc.mono c3, c4, B.grow c6⟩⟩, ?_⟩
          · refine (pre ⟨gfr, f :: (cs ++ outer), h⟩ (by simp only [apply, c2])).trans (c12.trans (leads_step K (pl := C.pl) ?_))
            have hfm : f.mode = .run := by have := gf.mode; rw [hm] at this; exact this.run_iff
            have ar : areturn C.P gE (f :: (cs ++ outer)) (packed us) h' = some ⟨f', cs ++ outer, h'⟩ := by
              simp only [areturn, c10, cond_false, hfm, w1]
            unfold astep
            simp only [c8]
            unfold Abs.unwind
            simp only [c9, c8, c7, c1, c11]
            cases us with
            | nil => exact ar
            | cons a b => cases b <;> exact ar
          · rw [hn1, ncalls_append, ncalls_append, ncalls_asks]; simp only [ncalls]; omega
        · cases e
      | false =>
        rw [hcO] at e
        simp only [cond_false] at e
        split at e
        · rename_i g hg
          cases e
          obtain ⟨f', w1, w2⟩ := senter_rel gargs hg
          exact ⟨⟨⟨f', f :: (cs ++ outer), h⟩, pre _ (by simp only [apply, w1]), ⟨H, f :: cs, rfl, w2, .cons gf gc, R, B⟩⟩, hnv⟩
        · cases e
  | round hq =>
    rename_i l a
    simp only at e
    split at e
    · rename_i r hr
      split at e
      · rename_i func hfn
        split at e
        · rename_i g hg
          cases e
          obtain ⟨r', k1, k2, k3, k4⟩ := sgetLoop_rel R hq hr
          obtain ⟨f', w1, w2⟩ := sroundFrame_rel hq k2 ga hg
          refine ⟨⟨⟨f', f :: (cs ++ outer), h⟩, pre _ (by simp only [apply, k1, k2.fn, hfn, w1]), ⟨H, f :: cs, rfl, w2, .cons gf gc, R, B⟩⟩, hnv⟩
        · cases e
      · cases e
    · cases e
  | defer gd =>
    rename_i d d'
    simp only at e
    have gr := gf.round
    split at e
    · rename_i hro
      rw [hro] at gr
      generalize hfr : f.roundOf = fro at gr
      cases gr
      refine val (f := { f with defers := d' :: f.defers }) (fr := { fr with defers := d :: fr.defers }) ⟨gf.fn, gf.nt, gf.tm, gf.todo, .cons gd gf.defers, gf.mode, gf.deferred, gf.round⟩ (.bad .bad) e fun f' hf => pre _ ?_
      simp only [hfr] at hf
      simp only [apply, hfr, hf]
    · cases e
  | recover =>
    simp only at e
    have gr := gf.round
    split at e
    · rename_i hro
      rw [hro] at gr
      generalize hfr : f.roundOf = fro at gr
      cases gr
      split at e
      · rename_i c rest hd
        cases gc with
        | cons g1 g2 =>
          rename_i y ys
          refine val gf .nili e fun f' hf => pre _ ?_
          have hfd : f.deferred = true := by rw [gf.deferred]; exact hd
          have hm1 := g1.mode
          simp only [apply, hfr, hfd, List.cons_append]
          cases hym : y.mode with
          | run => simp only [hf]
          | returning => simp only [hf]
          | panicking q => rw [hym] at hm1; cases hcm : c.mode <;> rw [hcm] at hm1 <;> exact hm1.elim
      · cases e
    · cases e

theorem sfresh_nv {P : Program} {sh sh' : SHeap} {x : Tr SV} {o : Oper} {v : SV} {l : List E} (e : sfresh P sh x o = some (sh', v, l)) : sh'.nv = sh.nv := by
  unfold sfresh at e
  split at e
  · split at e
    · obtain ⟨_, e⟩ := cond_ok e; cases e; rfl
    · cases e
  · split at e
    · cases e
    · obtain ⟨_, e⟩ := cond_ok e; cases e; rfl
  · split at e
    · split at e
      · obtain ⟨_, e⟩ := cond_ok e
        split at e
        · cases e; exact freezes_nv _ _
        · cases e
      · cases e
    · cases e
  · split at e
    · split at e
      · obtain ⟨_, e⟩ := cond_ok e
        split at e
        · cases e; rfl
        · cases e
      · cases e
    · cases e
  · cases e
theorem streeFresh_nv {P : Program} {pol : Pol} {fn : FuncId} {sh sh' : SHeap} {x : Tr SV} {o : Oper} {v : SV} {l : List E} (e : streeFresh P pol fn sh x o = some (sh', v, l)) : sh'.nv = sh.nv := by
  unfold streeFresh at e
  obtain ⟨_, e⟩ := cond_ok e
  split at e
  · split at e
    · split at e
      · obtain ⟨_, e⟩ := cond_ok e
        split at e
        · obtain ⟨_, e⟩ := cond_ok e
          cases e; exact (kills_eq _ _).2.2
        · cases e
      · cases e
    · cases e
  · split at e
    · split at e
      · obtain ⟨_, e⟩ := cond_ok e
        split at e
        · cases e; rfl
        · cases e
      · cases e
    · cases e
  · cases e
theorem treeStore_nv {P : Program} {sh sh' : SHeap} {t : TypeId} {a v : SV} {l : List E} (e : treeStore P sh t a v = some (sh', l)) : sh'.nv = sh.nv := by
  unfold treeStore at e
  split at e
  · split at e
    · split at e
      · split at e
        · cases hs : slicy P deep t with
          | true => rw [hs] at e; cases e
          | false =>
            rw [hs] at e
            simp only [cond_false] at e
            split at e
            · obtain ⟨_, e⟩ := cond_ok e
              split at e
              · cases e; rfl
              · cases e
            · cases e
        · obtain ⟨_, e⟩ := cond_ok e
          split at e
          · cases e; rfl
          · split at e
            · cases e; rfl
            · cases e
          · cases e
      · cases e
    · cases e
  · cases e
theorem treeAppend_nv {P : Program} {sh sh' : SHeap} {st xt : TypeId} {s x v : SV} {l : List E} (e : treeAppend P sh st xt s x = some (v, sh', l)) : sh'.nv = sh.nv := by
  unfold treeAppend at e
  split at e
  · split at e
    · obtain ⟨_, e⟩ := cond_ok e
      split at e
      · cases e; rfl
      · split at e
        · obtain ⟨_, e⟩ := cond_ok e
          cases e; rfl
        · cases e
      · cases e
    · cases e
  · cases e
theorem sheavy_nv {P : Program} {sh sh' : SHeap} {x : Tr SV} {o : Oper} {n : SNext} {l : List E} (e : sheavy P sh x o = some (n, sh', l)) : sh'.nv = sh.nv := by
  unfold sheavy at e
  split at e
  · split at e
    rotate_left
    · simp only [Option.map_eq_some_iff] at e
      obtain ⟨⟨r1, r2⟩, e1, e2⟩ := e
      simp only [Prod.mk.injEq] at e2
      obtain ⟨_, rfl, _⟩ := e2
      exact treeStore_nv e1
    rename_i r e1
    obtain ⟨r1, r2⟩ := r
    simp only [Option.some.injEq, Prod.mk.injEq] at e
    obtain ⟨_, rfl, _⟩ := e
    unfold sstore at e1
    split at e1
    · split at e1
      · split at e1
        · obtain ⟨_, e1⟩ := cond_ok e1; cases e1; rfl
        · cases e1
      · cases e1
    · simp only at e1
      split at e1
      · split at e1
        · obtain ⟨_, e1⟩ := cond_ok e1
          split at e1
          · split at e1
            · cases e1; exact freezes_nv _ _
            · cases e1
          · cases e1
        · cases e1
      · cases e1
    · cases e1
  · split at e
    · split at e
      rotate_left
      · simp only [Option.map_eq_some_iff] at e
        obtain ⟨⟨r1, r2, r3⟩, e1, e2⟩ := e
        simp only [Prod.mk.injEq] at e2
        obtain ⟨_, rfl, _⟩ := e2
        exact treeAppend_nv e1
      rename_i r e1
      obtain ⟨r1, r2, r3⟩ := r
      simp only [Option.some.injEq, Prod.mk.injEq] at e
      obtain ⟨_, rfl, _⟩ := e
      unfold sappend at e1
      split at e1
      · split at e1
        · obtain ⟨_, e1⟩ := cond_ok e1
          split at e1
          · obtain ⟨_, e1⟩ := cond_ok e1
            split at e1
            · cases e1; rfl
            · split at e1
              · obtain ⟨_, e1⟩ := cond_ok e1; cases e1; rfl
              · cases e1
            · cases e1
          · cases e1
        · cases e1
      · cases e1
    · simp only [Option.map_eq_some_iff] at e
      obtain ⟨⟨r1, r2, r3⟩, e1, e2⟩ := e
      simp only [Prod.mk.injEq] at e2
      obtain ⟨_, rfl, _⟩ := e2
      unfold scopy at e1
      split at e1
      · split at e1
        · split at e1
          · split at e1
            · obtain ⟨_, e1⟩ := cond_ok e1; cases e1; rfl
            · cases e1
          · cases e1
        · cases e1
      · cases e1
    · cases e; rfl
    · cases e
  · simp only [Option.map_eq_some_iff] at e
    obtain ⟨r, e1, e2⟩ := e
    cases e2; rfl
  · split at e
    · cases e; rfl
    · cases e
  · cases e
theorem svalue_ev {fr : SFrame} {callers : List SFrame} {v : SV} {ev : List Ev} {ch : List Bool} {o : Out} (e : svalue C fr callers sh v ev ch = some o) : ∃ l, o.ev = ev ++ l := by
  unfold svalue at e
  simp only [Option.map_eq_some_iff] at e
  obtain ⟨r, _, rfl⟩ := e
  exact ⟨_, rfl⟩
theorem sapply_ev {fr : SFrame} {callers : List SFrame} {n : SNext} {args : List SV} {ev : List Ev} {ch : List Bool} {o : Out} (e : sapply C fr callers n sh args ev ch = some o) : ∃ l, o.ev = ev ++ l := by
  unfold sapply at e
  split at e
  · exact svalue_ev e
  · cases hc : C.ctr.contains _ with
    | false =>
      rw [hc] at e
      simp only [cond_false] at e
      cases hcO : C.ctrO.contains _ with
      | true =>
        rw [hcO] at e
        simp only [cond_true] at e
        split at e
        · obtain ⟨l, hl⟩ := svalue_ev e
          exact ⟨_, by rw [hl, List.append_assoc]⟩
        · cases e
      | false =>
        rw [hcO] at e
        simp only [cond_false] at e
        split at e
        · cases e; exact ⟨[], by simp⟩
        · cases e
    | true =>
      rw [hc] at e
      simp only [cond_true] at e
      split at e
      · obtain ⟨l, hl⟩ := svalue_ev e
        exact ⟨_, by rw [hl, List.append_assoc]⟩
      · cases e
  · split at e
    · split at e
      · split at e
        · cases e; exact ⟨[], by simp⟩
        · cases e
      · cases e
    · cases e
  · split at e
    · exact svalue_ev e
    · cases e
  · split at e
    · split at e
      · exact svalue_ev e
      · cases e
    · cases e
theorem sdo1_rel (K : ProgOk C.P) (R : HR C.P h0 h H ρ sh) (B : Base h0 S0 H) {fr : SFrame} {f : AFrame} {callers : List SFrame} {cs : List AFrame} {op : Oper} {ev : List Ev} {ch : List Bool} {o : Out} {m : AMach} {ops : Array Oper} (hm : fr.mode = .run)
    (gf : FR C.P h H ρ fr f) (gc : FRs C.P h H ρ callers cs) (hne : ncalls ev = 0)
    (e : sdo1 C fr callers sh op ev ch = some o) (hev : EvOk C.P ρ sh.nv o.ev) (hw : awanted ops f.tm op = some true) (pre : ∀ m', aoper C.P f (cs ++ outer) h ops op = some m' → Leads C.P m m') :
    (∃ m', Leads C.P m m' ∧ MR C.P h0 S0 outer ρ o.m m') ∧ o.m.h.nv = sh.nv + ncalls o.ev := by
  unfold sdo1 at e
  split at e
  · rename_i v c hs
    have hev' := hev
    have hc : Holds ρ c := by
      unfold svalue at e
      simp only [Option.map_eq_some_iff] at e
      obtain ⟨⟨fr', l⟩, e1, rfl⟩ := e
      simp only at hev
      rw [EvOk.append, EvOk.append, EvOk.asks] at hev
      exact hev.1.2
    obtain ⟨u, u1, u2⟩ := slight_rel R gf.tm hs hc
    obtain ⟨f', w1, w2, w3, l, w4⟩ := svalue_rel R B (outer := outer) (S0 := S0) gf gc u2 e hev
    refine ⟨⟨_, pre _ (by simp only [aoper, hw, u1, w1]), w2⟩, ?_⟩
    rw [w3, w4, ncalls_append, ncalls_append, ncalls_asks, ncalls_asks]; omega
  · rename_i hs
    split at e
    · rename_i sh1 v c hs1
      have hc : Holds ρ c := by
        unfold svalue at e
        simp only [Option.map_eq_some_iff] at e
        obtain ⟨⟨fr', l⟩, e1, rfl⟩ := e
        simp only at hev
        rw [EvOk.append, EvOk.append, EvOk.asks] at hev
        exact hev.1.2
      have hfr : (∃ ob u H', alight C.P h f.tm op = none ∧ afresh C.P h.next f.tm op = some (ob, u) ∧ HExt h H (h.new ob) H' ∧ HR C.P h0 (h.new ob) H' ρ sh1 ∧ SD C.P (h.new ob) H' ρ v u ∧ SGrow h0 H H') ∧ sh1.nv = sh.nv := by
        split at hs1
        · rename_i r hs2
          cases hs1
          exact ⟨streeFresh_rel R gf.tm hs2 hc, streeFresh_nv hs2⟩
        · exact ⟨sfresh_rel R gf.tm hs1 hc, sfresh_nv hs1⟩
      obtain ⟨⟨ob, u, H', z1, z2, z3, z4, z5, z6⟩, hnv1⟩ := hfr
      obtain ⟨f', w1, w2, w3, l, w4⟩ := svalue_rel z4 (B.grow z6) (outer := outer) (S0 := S0) (gf.mono z3) (gc.mono z3) z5 e hev
      refine ⟨⟨_, pre _ (by simp only [aoper, hw, z1, z2, w1]), w2⟩, ?_⟩
      rw [w3, w4, ncalls_append, ncalls_append, ncalls_asks, ncalls_asks, hne]
      omega
    · split at e
      · rename_i n sh1 c hs1
        have hpre : ∃ l, o.ev = (ev ++ asks c) ++ l := sapply_ev e
        have hc : Holds ρ c := by
          obtain ⟨l, hl⟩ := hpre
          rw [hl, EvOk.append, EvOk.append, EvOk.asks] at hev
          exact hev.1.2
        obtain ⟨an, h', H', z1, z2, z3, z4, z5, z6, z7⟩ := sheavy_rel R gf.tm hs1 hc
        refine sapply_rel (aargs := match op.op with | .call c => c.args.toList.map (evalOp f.tm) | _ => []) K z5 (B.grow z7) hm (gf.mono z4) (gc.mono z4) z6 ?_ sh.nv ?_ e hev ?_
        · cases op.op with
          | call c => exact SDs.map fun a _ => (sEval_rel gf.tm a).mono z4
          | _ => exact .nil
        · rw [sheavy_nv hs1, ncalls_append, ncalls_asks, hne]; rfl
        · intro m' hm'
          refine pre _ ?_
          simp only [aoper, hw, z1, z2, z3]
          exact hm'
      · cases e
theorem svalue_ev' {fr : SFrame} {callers : List SFrame} {v : SV} {ev : List Ev} {ch : List Bool} {o : Out} {c : List E} (e : svalue C fr callers sh v (ev ++ asks c) ch = some o) : ∃ l, o.ev = ev ++ l := by
  obtain ⟨l, hl⟩ := svalue_ev e
  exact ⟨asks c ++ l, by rw [hl, List.append_assoc]⟩
theorem sdo1_ev {fr : SFrame} {callers : List SFrame} {op : Oper} {ev : List Ev} {ch : List Bool} {o : Out} (e : sdo1 C fr callers sh op ev ch = some o) : ∃ l, o.ev = ev ++ l := by
  unfold sdo1 at e
  split at e
  · exact svalue_ev' e
  · split at e
    · exact svalue_ev' e
    · split at e
      · rename_i n sh1 c hs1
        obtain ⟨l, hl⟩ := sapply_ev e
        exact ⟨asks c ++ l, by rw [hl, List.append_assoc]⟩
      · cases e
theorem sdo_rel (K : ProgOk C.P) (R : HR C.P h0 h H ρ sh) (B : Base h0 S0 H) {fr : SFrame} {f : AFrame} {callers : List SFrame} {cs : List AFrame} {op : Oper} {ev : List Ev} {ch : List Bool} {o : Out} {m : AMach} {ops : Array Oper} (hm : fr.mode = .run)
    (gf : FR C.P h H ρ fr f) (gc : FRs C.P h H ρ callers cs) (hne : ncalls ev = 0)
    (e : sdo C fr callers sh op ev ch = some o) (hev : EvOk C.P ρ sh.nv o.ev) (hw : awanted ops f.tm op = some true) (pre : ∀ m', aoper C.P f (cs ++ outer) h ops op = some m' → Leads C.P m m') :
    (∃ m', Leads C.P m m' ∧ MR C.P h0 S0 outer ρ o.m m') ∧ o.m.h.nv = sh.nv + ncalls o.ev := by
  unfold sdo at e
  have hl : Holds ρ (sprep C.P sh fr.tm op).2 := by
    obtain ⟨l, hl⟩ := sdo1_ev e
    rw [hl, EvOk.append, EvOk.append, EvOk.asks] at hev
    exact hev.1.2
  have hnv := sprep_nv (P := C.P) sh fr.tm op
  obtain ⟨H1, x1, R1, s1⟩ := sprep_rel R hl
  have := sdo1_rel (S0 := S0) (outer := outer) (m := m) K R1 (B.grow s1) hm (gf.mono x1) (gc.mono x1) (by rw [ncalls_append, ncalls_asks, hne]) e (by rw [hnv]; exact hev) hw pre
  rw [hnv] at this
  exact this
end
end Go.Sym
/- The steps. -/
namespace Go.Sym
open Go Go.Abs
set_option linter.unusedVariables false
set_option linter.unusedSimpArgs false
section
variable {C : Cfg} {h : Heap} {H : Hid} {ρ : Env} {h0 : Heap} {S0 : Nat → Prop} {outer : List AFrame} {sh : SHeap}

/-- What a step shows. -/
def Goes (C : Cfg) (h0 : Heap) (S0 : Nat → Prop) (outer : List AFrame) (ρ : Env) (nv : Nat) (m : AMach) (o : Out) : Prop :=
  (∃ m', Leads C.P m m' ∧ MR C.P h0 S0 outer ρ o.m m') ∧ o.m.h.nv = nv + ncalls o.ev

theorem ixSplit_holds {e : E} : ∀ {n k : Nat} {ch ch' : List Bool} {j : Nat} {cs : List E}, ixSplit e n k ch = some (j, cs, ch') → Holds ρ cs → e.i ρ = Int.ofNat j
  | 0, _, _, _, _, _, q, _ => by cases q
  | n + 1, k, ch, ch', j, cs, q, hl => by
    unfold ixSplit at q
    split at q
    · cases q
      have := hl _ (List.mem_singleton.2 rfl)
      simpa [E.b, E.i, eqB_iff] using this
    · simp only [Option.map_eq_some_iff] at q
      obtain ⟨⟨j', cs', ch2⟩, q1, q2⟩ := q
      cases q2
      exact ixSplit_holds q1 fun c hc => hl c (List.mem_cons_of_mem _ hc)
    · cases q
theorem ixOf_at {P : Program} {tm : Tr SV} {o : Oper} {d : Tmp} {k : IntKind} {e : E} {n : Nat} (q : ixOf P tm o = some (d, k, e, n)) : stGet tm d = .int k e := by
  obtain ⟨dst, op, type, pos, after, guard⟩ := o
  unfold ixOf at q
  simp only at q
  split at q
  · split at q
    · rename_i h2
      split at q
      · cases q
      · obtain ⟨_, q⟩ := cond_ok q
        cases q; exact h2
    · cases q
  · split at q
    · rename_i h2
      split at q
      · cases q
      · obtain ⟨_, q⟩ := cond_ok q
        cases q; exact h2
    · cases q
  · cases q
theorem soper_rel (K : ProgOk C.P) (R : HR C.P h0 h H ρ sh) (B : Base h0 S0 H) {fr : SFrame} {f : AFrame} {callers : List SFrame} {cs : List AFrame} {op : Oper} {ch : List Bool} {o : Out} {m : AMach} {ops : Array Oper} (hm : fr.mode = .run)
    (gf : FR C.P h H ρ fr f) (gc : FRs C.P h H ρ callers cs)
    (e : soper C fr callers sh ops op ch = some o) (hev : EvOk C.P ρ sh.nv o.ev) (self : Leads C.P m ⟨f, cs ++ outer, h⟩) (pre : ∀ m', aoper C.P f (cs ++ outer) h ops op = some m' → Leads C.P m m') : Goes C h0 S0 outer ρ sh.nv m o := by
  unfold soper at e
  split at e
  · rename_i hg
    split at e
    · rename_i d k e0 n hix
      split at e
      · rename_i j cs' ch' hs
        cases e
        have hl : Holds ρ cs' := EvOk.asks.1 hev
        have hj := ixSplit_holds hs hl
        have hd := gf.tm.at d
        rw [ixOf_at hix] at hd
        have hd' : SD C.P h H ρ (.int k (.il (Int.ofNat j))) (tmGet f.tm d) := by
          generalize tmGet f.tm d = u at hd
          cases hd
          rw [hj]; exact .int k (.il (Int.ofNat j))
        exact ⟨⟨_, self, ⟨H, cs, rfl, ⟨gf.fn, gf.nt, gf.tm.over d hd', gf.todo, gf.defers, gf.mode, gf.deferred, gf.round⟩, gc, R, B⟩⟩, by rw [ncalls_asks]; rfl⟩
      · cases e
    · exact sdo_rel K R B hm gf gc rfl e hev (sguard_known gf.tm hg) pre
  · rename_i hg
    obtain ⟨f', w1, w2, w3, l, w4⟩ := svalue_rel R B (outer := outer) (S0 := S0) gf gc (.tuple .nil) e hev
    refine ⟨⟨_, pre _ (by simp only [aoper, sguard_known gf.tm hg, w1]), w2⟩, ?_⟩
    rw [w3, w4, ncalls_append, ncalls_asks]; rfl
  · rename_i d e0 want hg
    split at e
    · rename_i c ch'
      obtain ⟨g1, g2⟩ := sguard_open gf.tm hg
      have gf' : e0.b ρ = c → FR C.P h H ρ { fr with tm := fr.tm.set d (.bool (.bl c)) } f := fun hc =>
        ⟨gf.fn, gf.nt, gf.tm.over d (by rw [g2, hc]; exact .bool (.bl c)), gf.todo, gf.defers, gf.mode, gf.deferred, gf.round⟩
      have hcond : (cond c e0 e0.not').b ρ = true → e0.b ρ = c := by
        intro hq
        cases c
        · simp only [cond_false, not'_b, Bool.not_eq_true'] at hq; exact hq
        · exact hq
      cases hcw : (c == want) with
      | true =>
        rw [hcw] at e
        simp only [cond_true] at e
        have hq : (cond c e0 e0.not').b ρ = true := by
          have : ∃ l, o.ev = [Ev.ask (cond c e0 e0.not')] ++ l := by
            unfold sdo at e
            obtain ⟨l, hl⟩ := sdo1_ev e
            exact ⟨_, by rw [hl, List.append_assoc]⟩
          obtain ⟨l, hl⟩ := this
          rw [hl, EvOk.append] at hev
          exact hev.1.1
        have hc := hcond hq
        exact sdo_rel (fr := { fr with tm := fr.tm.set d (.bool (.bl c)) }) K R B hm (gf' hc) gc rfl e hev (by rw [g1, hc, hcw]) pre
      | false =>
        rw [hcw] at e
        simp only [cond_false] at e
        have hq : (cond c e0 e0.not').b ρ = true := by
          obtain ⟨l, hl⟩ := svalue_ev e
          rw [hl, EvOk.append] at hev
          exact hev.1.1
        have hc := hcond hq
        obtain ⟨f', w1, w2, w3, l, w4⟩ := svalue_rel (fr := { fr with tm := fr.tm.set d (.bool (.bl c)) }) R B (outer := outer) (S0 := S0) (gf' hc) gc (.tuple .nil) e hev
        refine ⟨⟨_, pre _ (by simp only [aoper, g1, hc, hcw, w1]), w2⟩, ?_⟩
        rw [w3, w4, ncalls_append, ncalls_asks]; rfl
    · cases e
  · cases e

theorem sreturn_rel (R : HR C.P h0 h H ρ sh) (B : Base h0 S0 H) {fr : SFrame} {f : AFrame} {callers : List SFrame} {cs : List AFrame} {v : SV} {u : AV} {ch : List Bool} {o : Out} {m : AMach} (hd : f.deferred = fr.deferred)
    (gc : FRs C.P h H ρ callers cs) (gv : SD C.P h H ρ v u) (e : sreturn C fr callers v sh ch = some o) (hev : EvOk C.P ρ sh.nv o.ev) (pre : ∀ m', areturn C.P f (cs ++ outer) u h = some m' → Leads C.P m m') : Goes C h0 S0 outer ρ sh.nv m o := by
  unfold sreturn at e
  cases gc with
  | nil => cases e
  | cons g1 g2 =>
    rename_i c y rest ys
    simp only at e
    have gm := g1.mode
    cases hdf : fr.deferred with
    | true =>
      rw [hdf] at e hd
      simp only [cond_true] at e
      split at e
      · cases e
      · rename_i hcm
        cases e
        rw [hcm] at gm
        have hym := gm.ret_iff
        refine ⟨⟨⟨y, ys ++ outer, h⟩, pre _ ?_, ⟨H, ys, rfl, g1, g2, R, B⟩⟩, rfl⟩
        simp only [areturn, List.cons_append, hd, cond_true, hym]
    | false =>
      rw [hdf] at e hd
      simp only [cond_false] at e
      split at e
      · rename_i hcm
        rw [hcm] at gm
        have hym := gm.run_iff
        obtain ⟨f', w1, w2, w3, l, w4⟩ := svalue_rel R B (outer := outer) (S0 := S0) g1 g2 gv e hev
        refine ⟨⟨_, pre _ ?_, w2⟩, ?_⟩
        · simp only [areturn, List.cons_append, hd, cond_false, hym, w1]
        · rw [w3, w4, ncalls_append, ncalls_asks]; rfl
      · cases e

theorem LoopR.with {P : Program} {r : SLoop} {r' : ALoop} (g : LoopR P h H ρ r r') (s : LoopState) (p : Option Code) : LoopR P h H ρ { r with state := s, pending := p } { r' with state := s, pending := p } :=
  ⟨rfl, rfl, g.fn, g.nt, g.tm, g.params, g.assign, g.body, g.defers⟩
theorem LoopR.with1 {P : Program} {r : SLoop} {r' : ALoop} (g : LoopR P h H ρ r r') (s : LoopState) : LoopR P h H ρ { r with state := s } { r' with state := s } :=
  ⟨rfl, g.pending, g.fn, g.nt, g.tm, g.params, g.assign, g.body, g.defers⟩
/-- An object that is no block of elements is written. -/
theorem setObj_rel {P : Program} (R : HR P h0 h H ρ sh) {l a : Nat} {o0 o : SObj} {ob : AObj} (hg : sh.get l = some o0) (ho0 : own o0 = true) (ho1 : own o = true) (hn : H.ν l = some (.obj a)) (ho : ∀ H', HExt h H (h.set a ob) H' → H'.ν l = some (.obj a) → ObjR P (h.set a ob) H' ρ l o) (hnt : isTreeO o = false := by rfl) :
    ∃ H', HExt h H (h.set a ob) H' ∧ HR P h0 (h.set a ob) H' ρ (sh.set l o) ∧ SGrow h0 H H' := by
  obtain ⟨x1, R1⟩ := R.upd (o := o) (ob := ob) (acs := []) (sh' := sh.set l o) hg ho0 ho1 hn rfl rfl rfl (.inl ⟨rfl, rfl⟩) (fun x => ho _ x hn) hnt
  exact ⟨_, x1, R1, fun a ha => .inl ha⟩

theorem sleave_rel (K : ProgOk C.P) (R : HR C.P h0 h H ρ sh) (B : Base h0 S0 H) {fr : SFrame} {f : AFrame} {callers : List SFrame} {cs : List AFrame} {jump : Option Code} {ch : List Bool} {o : Out} {m : AMach}
    (gf : FR C.P h H ρ fr f) (gc : FRs C.P h H ρ callers cs) (e : sleave C fr callers sh jump ch = some o) (hev : EvOk C.P ρ sh.nv o.ev) (pre : ∀ m', aleave C.P f (cs ++ outer) h jump = some m' → Leads C.P m m') : Goes C h0 S0 outer ρ sh.nv m o := by
  unfold sleave at e
  have gr := gf.round
  generalize hfr : f.roundOf = fro at gr
  split at e
  · rename_i hro
    rw [hro] at gr
    cases gr
    have done : ∀ {x : Option Out}, x = some { m := { fr := { fr with mode := .returning }, callers, h := sh }, ev := [], ch } → some o = x → (∀ m', aleave C.P f (cs ++ outer) h jump = some m' → Leads C.P m m') → aleave C.P f (cs ++ outer) h jump = some { fr := { f with mode := .returning }, callers := cs ++ outer, h } → Goes C h0 S0 outer ρ sh.nv m o := by
      intro x h1 h2 h3 h4
      rw [h1] at h2; cases h2
      exact ⟨⟨_, h3 _ h4, ⟨H, cs, rfl, ⟨gf.fn, gf.nt, gf.tm, gf.todo, gf.defers, trivial, gf.deferred, gf.round⟩, gc, R, B⟩⟩, rfl⟩
    split at e
    · exact done rfl e.symm pre (by simp only [aleave, hfr])
    · exact done rfl e.symm pre (by simp only [aleave, hfr])
    · cases e
  · rename_i l hro
    rw [hro] at gr
    cases gr with
    | some hn =>
      rename_i a
      split at e
      · rename_i r hr
        obtain ⟨r', k1, k2, k3, k4⟩ := sgetLoop_rel R hn hr
        cases hdf : fr.deferred with
        | true => rw [hdf] at e; cases e
        | false =>
          rw [hdf] at e
          simp only [cond_false] at e
          obtain ⟨H', x1, R1, s1⟩ := setObj_rel R (o := .loop { r with state := if jump.isNone then .ready else .done, pending := jump }) (ob := .loop { r' with state := if jump.isNone then .ready else .done, pending := jump }) k3 rfl rfl hn
            (fun H' x hn' => .loop hn' (by rw [Heap.get_set]; simp) ((k2.with _ _).mono x))
          have hd : f.deferred = false := by rw [gf.deferred, hdf]
          refine sreturn_rel (f := f) (u := .bool jump.isNone) R1 (B.grow s1) (by rw [hd, hdf]) (gc.mono x1) (.bool (.bl jump.isNone)) e hev fun m' hm' => pre _ ?_
          simp only [aleave, hfr, k1, hd, cond_false]
          exact hm'
      · cases e

theorem aexitTo_rel {id : Nat} : ∀ {k : List AItem} {ka : List AItem}, ItsR H k ka → (match aexitTo id k with | some r => ∃ ra, aexitTo id ka = some ra ∧ ItsR H r ra | none => aexitTo id ka = none)
  | [], _, .nil => rfl
  | x :: k, _, .cons (y := y) (ys := ys) g1 g2 => by
    have ih := aexitTo_rel (id := id) g2
    cases g1 with
    | same _ hx =>
      cases x with
      | inBlock n =>
        simp only [aexitTo]
        cases hb : Nat.beq n id with
        | true => simp only [cond_true]; exact ⟨_, rfl, g2⟩
        | false => simp only [cond_false]; exact ih
      | _ => simp only [aexitTo]; exact ih
    | inRangeFunc q => simp only [aexitTo]; exact ih
    | endRangeFunc q => simp only [aexitTo]; exact ih

theorem sexec_rel (K : ProgOk C.P) (R : HR C.P h0 h H ρ sh) (B : Base h0 S0 H) {fr : SFrame} {f : AFrame} {callers : List SFrame} {cs : List AFrame} {ch : List Bool} {o : Out} {m : AMach} (hm : fr.mode = .run)
    (gf : FR C.P h H ρ fr f) (gc : FRs C.P h H ρ callers cs)
    (e : sexec C fr callers sh ch = some o) (hev : EvOk C.P ρ sh.nv o.ev) (self : Leads C.P m ⟨f, cs ++ outer, h⟩) (pre : ∀ m', exec C.P C.pl f (cs ++ outer) h = some m' → Leads C.P m m') : Goes C h0 S0 outer ρ sh.nv m o := by
  have gt := gf.todo
  generalize hft : f.todo = ft at gt
  have to : ∀ {todo todo' : List AItem} {o : Out}, ItsR H todo todo' → some { m := { fr := { fr with todo }, callers, h := sh }, ev := [], ch } = some o → exec C.P C.pl f (cs ++ outer) h = some { fr := { f with todo := todo' }, callers := cs ++ outer, h } → Goes C h0 S0 outer ρ sh.nv m o := by
    intro todo todo' o gi e ha
    cases e
    exact ⟨⟨_, pre _ ha, ⟨H, cs, rfl, ⟨gf.fn, gf.nt, gf.tm, gi, gf.defers, gf.mode, gf.deferred, gf.round⟩, gc, R, B⟩⟩, rfl⟩
  unfold sexec at e
  simp only at e
  split at e
  · -- nothing left
    rename_i htd
    rw [htd] at gt
    cases gt
    exact sleave_rel K R B gf gc e hev fun m' hm' => pre _ (by simp only [exec, hft]; exact hm')
  · rename_i c k htd
    rw [htd] at gt
    cases gt with
    | cons g1 g2 =>
    rename_i y ys
    have hy : y = .code c := by cases g1; rfl
    subst hy
    split at e
    · exact sleave_rel K R B gf gc e hev fun m' hm' => pre _ (by simp only [exec, hft]; exact hm')
    · exact to g2 e (by simp only [exec, hft])
    · exact to g2 e (by simp only [exec, hft])
    · exact to (.cons (.plain rfl) (.cons (.plain rfl) g2)) e (by simp only [exec, hft])
    · rename_i c thn els
      have gcv := sEval_rel gf.tm c
      split at e
      · rename_i b hq
        rw [hq] at gcv
        exact to (.cons (.plain rfl) g2) e (by simp only [exec, hft, gcv.toBool]; rfl)
      · rename_i e0 hne hq
        rw [hq] at gcv
        split at e
        · rename_i b ch'
          cases e
          obtain ⟨hb, _⟩ := hev
          have hb' : e0.b ρ = b := by
            cases b
            · simp only [cond_false, not'_b, Bool.not_eq_true'] at hb; exact hb
            · exact hb
          refine ⟨⟨{ fr := { f with todo := .code (cond b thn els) :: ys }, callers := cs ++ outer, h }, pre _ ?_, ⟨H, cs, rfl, ⟨gf.fn, gf.nt, gf.tm, .cons (.plain rfl) g2, gf.defers, gf.mode, gf.deferred, gf.round⟩, gc, R, B⟩⟩, rfl⟩
          simp only [exec, hft, gcv.toBool, hb']
        · cases e
      · cases e
    · exact to (.cons (.plain rfl) (.cons (.plain rfl) g2)) e (by simp only [exec, hft])
    · exact to (.cons (.plain rfl) (.cons (.plain rfl) g2)) e (by simp only [exec, hft])
    · exact to (.cons (.plain rfl) (.cons (.plain rfl) g2)) e (by simp only [exec, hft])
    · rename_i id
      have ha := aexitTo_rel (id := id) g2
      split at e
      · rename_i k' hk
        rw [hk] at ha
        obtain ⟨ra, h1, h2⟩ := ha
        exact to h2 e (by simp only [exec, hft, h1])
      · rename_i hk
        rw [hk] at ha
        simp only at ha
        exact sleave_rel K R B gf gc e hev fun m' hm' => pre _ (by simp only [exec, hft, ha]; exact hm')
    · exact to (.cons (.plain rfl) g2) e (by simp only [exec, hft])
    · rename_i id ops
      split at e
      · rename_i l hl
        split at e
        · rename_i p hp
          obtain ⟨hok, e⟩ := cond_ok e
          exact to (.cons (.plain rfl) g2) e (by simp only [exec, hft, gf.fn, hl, hp, hok, cond_true])
        · cases e
      · cases e
    · -- a loop over a function
      rename_i fo params assign body
      have gr := gf.round
      generalize hfr : f.roundOf = fro at gr
      have newLoop : ∀ {h : Heap} {H : Hid} {sh : SHeap} {d a : Nat}, HR C.P h0 h H ρ sh → FR C.P h H ρ fr f → H.ν d = some (.obj a) →
          ∃ H', HExt h H (h.new (.loop { state := .ready, pending := none, fn := f.fn, nt := f.nt, tm := f.tm, params, assign, body, defers := a })) H' ∧ HR C.P h0 (h.new (.loop { state := .ready, pending := none, fn := f.fn, nt := f.nt, tm := f.tm, params, assign, body, defers := a })) H' ρ (sh.new (.loop { state := .ready, pending := none, fn := fr.fn, nt := fr.nt, tm := fr.tm, params, assign, body, defers := d })) ∧ H'.ν sh.next = some (.obj h.next) ∧ SGrow h0 H H' := by
        intro h H sh d a R gf hd
        obtain ⟨x1, R1⟩ := R.new (o := .loop { state := .ready, pending := none, fn := fr.fn, nt := fr.nt, tm := fr.tm, params, assign, body, defers := d }) (ob := .loop { state := .ready, pending := none, fn := f.fn, nt := f.nt, tm := f.tm, params, assign, body, defers := a }) (l := .obj h.next) (acs := []) rfl
          (fun x => .loop (a := h.next) (y := { state := .ready, pending := none, fn := f.fn, nt := f.nt, tm := f.tm, params, assign, body, defers := a }) (by simp [Hid.new]) (by rw [Heap.get_new]; simp) ⟨rfl, rfl, gf.fn, gf.nt, gf.tm.mono x, rfl, rfl, rfl, x.nu _ _ hd⟩)
        exact ⟨_, x1, R1, by simp [Hid.new], fun a ha => .inl ha⟩
      split at e
      · rename_i hro
        rw [hro] at gr
        cases gr
        split at e
        · rename_i n hn
          obtain ⟨x1, R1⟩ := R.new (o := .deferred (some [])) (ob := .deferred (some [])) (l := .obj h.next) (acs := []) rfl
            (fun x => .deferred (a := h.next) (y := some []) (by simp [Hid.new]) (by rw [Heap.get_new]; simp) .nil)
          have hd : (H.new sh.next (.obj h.next) []).ν sh.next = some (.obj h.next) := by simp [Hid.new]
          obtain ⟨H2, x2, R2, n2, s2⟩ := newLoop R1 (gf.mono x1) hd
          have xx := x1.trans x2
          have gy : ∀ h' : Heap, SDs C.P h' H2 ρ [.yieldf (sh.new (.deferred (some []))).next] [.yieldf (h.new (.deferred (some []))).next] := fun _ => .cons (.yieldf n2) .nil
          obtain ⟨an, a1, a2⟩ := scall_rel (sEval_rel (gf.mono xx).tm fo) (gy _) hn
          refine sapply_rel K R2 ((B.grow (fun a ha => Or.inl ha)).grow s2) (by exact hm) (f := { f with todo := .inRangeFunc (h.new (.deferred (some []))).next :: ys, defers := { tgt := .collected h.next, args := [] } :: f.defers }) ?_ (gc.mono xx) a2 (gy _) sh.nv rfl e hev fun m' hm' => pre _ ?_
          · have gm := gf.mono xx
            exact ⟨gm.fn, gm.nt, gm.tm, .cons (.inRangeFunc n2) (g2.mono xx), .cons (.collected (x2.nu _ _ hd) .nil) gm.defers, gm.mode, gm.deferred, gm.round⟩
          · simp only [exec, hft, hfr, a1]
            simp only [hfr] at hm'
            exact hm'
        · cases e
      · rename_i outr hro
        rw [hro] at gr
        cases gr with
        | some hq =>
        split at e
        · rename_i r hr
          obtain ⟨r', k1, k2, k3, k4⟩ := sgetLoop_rel R hq hr
          split at e
          · rename_i n hn
            obtain ⟨H2, x2, R2, n2, s2⟩ := newLoop R gf k2.defers
            have gy : ∀ h' : Heap, SDs C.P h' H2 ρ [.yieldf sh.next] [.yieldf h.next] := fun _ => .cons (.yieldf n2) .nil
            obtain ⟨an, a1, a2⟩ := scall_rel (sEval_rel (gf.mono x2).tm fo) (gy _) hn
            refine sapply_rel K R2 (B.grow s2) (by exact hm) (f := { f with todo := .inRangeFunc h.next :: ys }) ?_ (gc.mono x2) a2 (gy _) sh.nv rfl e hev fun m' hm' => pre _ ?_
            · have gm := gf.mono x2
              exact ⟨gm.fn, gm.nt, gm.tm, .cons (.inRangeFunc n2) (g2.mono x2), gm.defers, gm.mode, gm.deferred, gm.round⟩
            · simp only [exec, hft, hfr, k1, a1]
              simp only [hfr] at hm'
              exact hm'
          · cases e
        · cases e
    · cases e
  · rename_i id k htd
    rw [htd] at gt
    cases gt with | cons g1 g2 =>
    have hy := g1
    cases hy
    exact to g2 e (by simp only [exec, hft])
  · rename_i id k htd
    rw [htd] at gt
    cases gt with | cons g1 g2 =>
    cases g1
    exact to g2 e (by simp only [exec, hft])
  · rename_i body k htd
    rw [htd] at gt
    cases gt with | cons g1 g2 =>
    cases g1
    exact to (.cons (.plain rfl) (.cons (.plain rfl) g2)) e (by simp only [exec, hft])
  · rename_i ops i k htd
    rw [htd] at gt
    cases gt with | cons g1 g2 =>
    have := g1.reg; subst this
    exact to g2 e (by simp only [exec, hft])
  · rename_i ops i op rest k htd
    rw [htd] at gt
    cases gt with | cons g1 g2 =>
    have := g1.reg; subst this
    exact soper_rel K R B hm gf gc e hev self fun m' hm' => pre _ (by simp only [exec, hft]; exact hm')
  · rename_i ops k htd
    rw [htd] at gt
    cases gt with | cons g1 g2 =>
    have := g1.dreg; subst this
    exact to g2 e (by simp only [exec, hft])
  · rename_i ops i chk rest k htd
    rw [htd] at gt
    cases gt with | cons g1 g2 =>
    have := g1.dreg; subst this
    split at e
    · rename_i op hop
      exact soper_rel K R B hm gf gc e hev self fun m' hm' => pre _ (by simp only [exec, hft, hop]; exact hm')
    · cases e
  · cases e
  · rename_i k htd
    rw [htd] at gt
    cases gt with | cons g1 g2 =>
    rename_i y0 ys
    cases g1
    have gr := gf.round
    generalize hfr : f.roundOf = fro at gr
    split at e
    · rename_i l hro
      rw [hro] at gr
      cases gr with
      | some hq =>
      rename_i a
      split at e
      · rename_i r hr
        obtain ⟨r', k1, k2, k3, k4⟩ := sgetLoop_rel R hq hr
        split at e
        · rename_i hst
          cases e
          obtain ⟨H', x1, R1, s1⟩ := setObj_rel R (o := .loop { r with state := .busy }) (ob := .loop { r' with state := .busy }) k3 rfl rfl hq
            (fun H' x hn' => .loop hn' (by rw [Heap.get_set]; simp) ((k2.with1 _).mono x))
          have gm := gf.mono x1
          refine ⟨⟨{ fr := { f with todo := ys }, callers := cs ++ outer, h := h.set a (.loop { r' with state := .busy }) }, pre _ ?_, ⟨H', cs, rfl, ⟨gm.fn, gm.nt, gm.tm, g2.mono x1, gm.defers, gm.mode, gm.deferred, gm.round⟩, gc.mono x1, R1, B.grow s1⟩⟩, rfl⟩
          simp only [exec, hft, hfr, k1, k2.state, hst]
        · cases e
      · cases e
    · cases e
  · rename_i l k htd
    rw [htd] at gt
    cases gt with | cons g1 g2 =>
    rename_i ys
    cases g1 with
    | same _ q => exact absurd rfl (q l).2
    | endRangeFunc hq =>
    rename_i a
    split at e
    · rename_i r hr
      obtain ⟨r', k1, k2, k3, k4⟩ := sgetLoop_rel R hq hr
      split at e
      · cases e
      · rename_i hst
        cases e
        obtain ⟨H', x1, R1, s1⟩ := setObj_rel R (o := .loop { r with state := .exhausted }) (ob := .loop { r' with state := .exhausted }) k3 rfl rfl hq
          (fun H' x hn' => .loop hn' (by rw [Heap.get_set]; simp) ((k2.with1 _).mono x))
        have gm := gf.mono x1
        refine ⟨⟨{ fr := { f with todo := match r'.pending with | some c => .code c :: ys | none => ys }, callers := cs ++ outer, h := h.set a (.loop { r' with state := .exhausted }) }, pre _ ?_, ⟨H', cs, rfl, ⟨gm.fn, gm.nt, gm.tm, ?_, gm.defers, gm.mode, gm.deferred, gm.round⟩, gc.mono x1, R1, B.grow s1⟩⟩, rfl⟩
        · have : r'.state ≠ .busy := by rw [k2.state]; exact hst
          simp only [exec, hft, k1]
          cases hs : r'.state <;> first | rfl | exact absurd hs this
        · rw [k2.pending]
          cases r.pending with
          | none => exact g2.mono x1
          | some c => exact .cons (.plain rfl) (g2.mono x1)
    · cases e
end
end Go.Sym
/- Runs. -/
namespace Go.Sym
open Go Go.Abs
set_option linter.unusedVariables false
set_option linter.unusedSimpArgs false
section
variable {C : Cfg} {h : Heap} {H : Hid} {ρ : Env} {h0 : Heap} {S0 : Nat → Prop} {outer : List AFrame} {sh : SHeap}

theorem DefsR.append {P : Program} {a b : List SDef} {c d : List ADef} (g : DefsR P h H ρ a c) (k : DefsR P h H ρ b d) : DefsR P h H ρ (a ++ b) (c ++ d) := by
  induction g with
  | nil => exact k
  | cons x _ ih => exact .cons x ih
theorem sunwind_rel (K : ProgOk C.P) (R : HR C.P h0 h H ρ sh) (B : Base h0 S0 H) {fr : SFrame} {f : AFrame} {callers : List SFrame} {cs : List AFrame} {ch : List Bool} {o : Out} {m : AMach} (hm : fr.mode = .returning)
    (gf : FR C.P h H ρ fr f) (gc : FRs C.P h H ρ callers cs)
    (e : sunwind C fr callers sh ch = some o) (hev : EvOk C.P ρ sh.nv o.ev) (pre : ∀ m', Abs.unwind C.P f (cs ++ outer) h = some m' → Leads C.P m m') : Goes C h0 S0 outer ρ sh.nv m o := by
  have gd := gf.defers
  generalize hfd : f.defers = fd at gd
  have hfm : f.mode = .returning := by have := gf.mode; rw [hm] at this; exact this.ret_iff
  unfold sunwind at e
  split at e
  · rename_i r as_ ds hds
    rw [hds] at gd
    cases gd with
    | cons g1 g2 =>
      cases g1 with
      | collected hr gargs =>
        rename_i us a u
        split at e
        · rename_i calls hg
          cases e
          have ho := R.objs _ _ hg
          cases ho with
          | deferred e1 e2 e3 =>
            rename_i y a'
            rw [hr] at e1; cases e1
            cases y with
            | none => exact e3.elim
            | some calls' =>
              simp only at e3
              obtain ⟨H', x1, R1, s1⟩ := setObj_rel R (o := .deferred none) (ob := .deferred none) hg rfl rfl hr
                (fun H' x hn' => .deferred (y := none) hn' (by rw [Heap.get_set]; simp) trivial)
              have gm := gf.mono x1
              refine ⟨⟨{ fr := { f with defers := calls' ++ us }, callers := cs ++ outer, h := h.set a (.deferred none) }, pre _ ?_, ⟨H', cs, rfl, ⟨gm.fn, gm.nt, gm.tm, gm.todo, (e3.append g2).mono x1, gm.mode, gm.deferred, gm.round⟩, gc.mono x1, R1, B.grow s1⟩⟩, rfl⟩
              unfold Abs.unwind
              simp only [hfd, e2]
        · cases e
  · rename_i fn as_ ds hds
    rw [hds] at gd
    cases gd with
    | cons g1 g2 =>
      cases g1 with
      | func gargs =>
        rename_i us u
        split at e
        · rename_i g hg
          cases e
          obtain ⟨f', w1, w2⟩ := senter_rel gargs hg
          refine ⟨⟨{ fr := f', callers := { f with defers := us } :: (cs ++ outer), h }, pre _ ?_, ⟨H, { f with defers := us } :: cs, rfl, w2, .cons ⟨gf.fn, gf.nt, gf.tm, gf.todo, g2, gf.mode, gf.deferred, gf.round⟩ gc, R, B⟩⟩, rfl⟩
          unfold Abs.unwind
          simp only [hfd, w1]
        · cases e
  · rename_i hds
    rw [hds] at gd
    cases gd
    split at e
    · rename_i fn hfn
      have hfn' : C.P.funcs[f.fn]? = some fn := by rw [gf.fn]; exact hfn
      have fin : ∀ {vs : List SV} {c : List E} {v : SV} {us : List AV}, Holds ρ c → aresults C.P h f.tm fn.results.toList = some us → SD C.P h H ρ v (packed us) → (sreturn C fr callers v sh ch).map (fun o => { o with ev := asks c ++ o.ev }) = some o → Goes C h0 S0 outer ρ sh.nv m o := by
        intro vs c v us hc hr gv e
        simp only [Option.map_eq_some_iff] at e
        obtain ⟨o', e1, rfl⟩ := e
        simp only at hev
        rw [EvOk.append, ncalls_asks] at hev
        obtain ⟨p1, p2⟩ := sreturn_rel R B (outer := outer) (S0 := S0) (m := m) gf.deferred gc gv e1 (by simpa using hev.2) fun m' hm' => pre _ (by
          unfold Abs.unwind
          simp only [hfd, hfm, hfn', hr]
          cases us with
          | nil => exact hm'
          | cons a b => cases b <;> exact hm')
        refine ⟨p1, ?_⟩
        simp only [ncalls_append, ncalls_asks]
        omega
      split at e
      · rename_i v c hr
        have hc : Holds ρ c := by
          simp only [Option.map_eq_some_iff] at e
          obtain ⟨o', e1, rfl⟩ := e
          simp only at hev
          rw [EvOk.append, EvOk.asks] at hev
          exact hev.1
        obtain ⟨us, u1, u2⟩ := sresults_rel R gf.tm hr hc
        cases u2 with
        | cons a b => cases b; exact fin (vs := [v]) hc u1 a e
      · rename_i vs c hne hr
        have hc : Holds ρ c := by
          simp only [Option.map_eq_some_iff] at e
          obtain ⟨o', e1, rfl⟩ := e
          simp only at hev
          rw [EvOk.append, EvOk.asks] at hev
          exact hev.1
        obtain ⟨us, u1, u2⟩ := sresults_rel R gf.tm hr hc
        refine fin (vs := vs) hc u1 ?_ e
        cases u2 with
        | nil => exact .tuple .nil
        | cons a b =>
          cases b with
          | nil => exact (hne _ rfl).elim
          | cons c d => exact .tuple (.cons a (.cons c d))
      · cases e
    · cases e

theorem sstep_rel (K : ProgOk C.P) {s : SMach} {m : AMach} {ch : List Bool} {o : Out} (g : MR C.P h0 S0 outer ρ s m) (e : sstep C s ch = some o) (hev : EvOk C.P ρ s.h.nv o.ev) : Goes C h0 S0 outer ρ s.h.nv m o := by
  obtain ⟨H, cs, h1, h2, h3, h4, h5⟩ := g
  obtain ⟨f, callers, h⟩ := m
  simp only at h1 h2 h3 h4
  subst h1
  unfold sstep at e
  cases hm : s.fr.mode with
  | run =>
    rw [hm] at e
    refine sexec_rel K h4 h5 hm h2 h3 e hev (Leads.refl _) fun m' hm' => leads_step K (pl := C.pl) ?_
    have : f.mode = .run := by have := h2.mode; rw [hm] at this; exact this.run_iff
    unfold astep
    simp only [this]
    exact hm'
  | returning =>
    rw [hm] at e
    refine sunwind_rel K h4 h5 hm h2 h3 e hev fun m' hm' => leads_step K (pl := C.pl) ?_
    have : f.mode = .returning := by have := h2.mode; rw [hm] at this; exact this.ret_iff
    unfold astep
    simp only [this]
    exact hm'

theorem srun_acc : ∀ (n : Nat) (s : SMach) (ch : List Bool) (a : List Ev), srun C n s ch a = (srun C n s ch []).map fun r => (r.1, a ++ r.2.1, r.2.2)
  | 0, s, ch, a => by simp [srun]
  | n + 1, s, ch, a => by
    unfold srun
    cases ho : sstep C s ch with
    | none => rfl
    | some o =>
      simp only [List.nil_append]
      rw [srun_acc n o.m o.ch (a ++ o.ev), srun_acc n o.m o.ch o.ev]
      cases srun C n o.m o.ch [] with
      | none => rfl
      | some r => simp
theorem srun_ev {n : Nat} {s z : SMach} {ch ch' : List Bool} {ev ev' : List Ev} (e : srun C n s ch ev = some (z, ev', ch')) : ∃ l, ev' = ev ++ l ∧ srun C n s ch [] = some (z, l, ch') := by
  rw [srun_acc] at e
  simp only [Option.map_eq_some_iff] at e
  obtain ⟨⟨z', l, c'⟩, e1, e2⟩ := e
  cases e2
  exact ⟨l, rfl, e1⟩
theorem srun_rel (K : ProgOk C.P) : ∀ (n : Nat) {s z : SMach} {m : AMach} {ch ch' : List Bool} {ev : List Ev}, MR C.P h0 S0 outer ρ s m → srun C n s ch [] = some (z, ev, ch') → EvOk C.P ρ s.h.nv ev → ∃ m', Leads C.P m m' ∧ MR C.P h0 S0 outer ρ z m'
  | 0, s, z, m, ch, ch', ev, g, e, hev => by cases e; exact ⟨m, Leads.refl m, g⟩
  | n + 1, s, z, m, ch, ch', ev, g, e, hev => by
    unfold srun at e
    cases ho : sstep C s ch with
    | none => rw [ho] at e; cases e
    | some o =>
      rw [ho] at e
      simp only [List.nil_append] at e
      obtain ⟨l, h1, h2⟩ := srun_ev e
      rw [h1, EvOk.append] at hev
      obtain ⟨⟨m1, k1, k2⟩, k3⟩ := sstep_rel K g ho hev.1
      obtain ⟨m2, k4, k5⟩ := srun_rel K n k2 h2 (by rw [k3]; exact hev.2)
      exact ⟨m2, k1.trans k4, k5⟩
end
end Go.Sym
/- Instances of states: sound. -/
namespace Go.Sym
open Go Go.Abs
set_option linter.unusedVariables false
set_option linter.unusedSimpArgs false

theorem get_node0 {α : Type} (x : Option α) (a b c d : Tr α) : (Tr.node x a b c d).get 0 = x := rfl
theorem get_nodeS {α : Type} (x : Option α) (a b c d : Tr α) (k : Nat) : (Tr.node x a b c d).get (k + 1) = match d4 (k % 4) with | .a => a.get (k / 4) | .b => b.get (k / 4) | .c => c.get (k / 4) | .d => d.get (k / 4) := by
  unfold Tr.get
  rw [show Nat.succ (k + 1) = (k + 1) + 1 from rfl, wayTo_succ]
  rw [wayTo_more α (k + 1) (k / 4) (Nat.succ (k / 4)) (by omega) (by omega)]
  cases d4 (k % 4) <;> rfl
theorem allK_get {α : Type} : ∀ {f : Nat → α → Bool} {t : Tr α}, allK f t = true → ∀ n v, t.get n = some v → f n v = true := by
  intro f t
  induction t generalizing f with
  | nil => intro _ n v e; rw [Tr.get_nil] at e; cases e
  | node x a b c d iha ihb ihc ihd =>
    intro h n v e
    simp only [allK, Bool.and_eq_true] at h
    obtain ⟨⟨⟨⟨h0, ha⟩, hb⟩, hc⟩, hd⟩ := h
    cases n with
    | zero => rw [get_node0] at e; subst e; exact h0
    | succ k =>
      rw [get_nodeS] at e
      have hm : k % 4 = 0 ∨ k % 4 = 1 ∨ k % 4 = 2 ∨ k % 4 = 3 := by omega
      have hk : k = 4 * (k / 4) + k % 4 := by omega
      rcases hm with q | q | q | q <;> rw [q] at e hk
      · have := iha ha (k / 4) v e; rw [show k + 1 = 4 * (k / 4) + 1 from by omega]; exact this
      · have := ihb hb (k / 4) v e; rw [show k + 1 = 4 * (k / 4) + 2 from by omega]; exact this
      · have := ihc hc (k / 4) v e; rw [show k + 1 = 4 * (k / 4) + 3 from by omega]; exact this
      · have := ihd hd (k / 4) v e; rw [show k + 1 = 4 * (k / 4) + 4 from by omega]; exact this

section
variable {P : Program} {h : Heap} {H H' : Hid} {ρ ρ' : Env} {h0 : Heap} {sh : SHeap} {σ : Sub} {β : Blks}

theorem insts_i {a b : E} (hρ : (σ.ev ρ).le ρ') (e : insts .i σ a b = true) : a.i ρ' = b.i ρ := by
  unfold insts at e
  simp only [Bool.and_eq_true, decide_eq_true_eq] at e
  rw [(inst_ev hρ a).1 e.1, e.2]
theorem insts_b {a b : E} (hρ : (σ.ev ρ).le ρ') (e : insts .b σ a b = true) : a.b ρ' = b.b ρ := by
  unfold insts at e
  simp only [Bool.and_eq_true, decide_eq_true_eq] at e
  rw [(inst_ev hρ a).2.1 e.1, e.2]
theorem insts_v {a b : E} (hρ : (σ.ev ρ).le ρ') (e : insts .v σ a b = true) : a.v ρ' = b.v ρ := by
  unfold insts at e
  simp only [Bool.and_eq_true, decide_eq_true_eq] at e
  rw [(inst_ev hρ a).2.2 e.1, e.2]

/-- The names of the pattern. -/
structure Names (h : Heap) (H H' : Hid) (ρ : Env) (σ : Sub) (β : Blks) : Prop where
  nu : ∀ a c, findA a β = some (some c) → H'.ν a = H.ν c
  nu0 : ∀ a, findA a β = some none → H'.ν a = some .nil
  ka : ∀ (n : Nat) p av, σ.p[n]? = some p → avOf h H ρ p = some av → H'.κ n = [av]
  S : H'.S = H.S

theorem fits_rel (R : HR P h0 h H ρ sh) (N : Names h H H' ρ σ β) (hρ : (σ.ev ρ).le ρ') : ∀ {f : Nat} {x y : SV} {u : AV}, fits P sh σ β f x y = true → SD P h H ρ y u → SD P h H' ρ' x u := by
  intro f
  induction f with
  | zero => intro x y u e; exact (Bool.false_ne_true e).elim
  | succ f ih =>
    intro x y u e g
    have lists : ∀ {xs ys : List SV} {us : List AV}, all2 (fits P sh σ β f) xs ys = true → SDs P h H ρ ys us → SDs P h H' ρ' xs us := by
      intro xs
      induction xs with
      | nil => intro ys us e g; cases ys <;> simp [all2] at e; cases g; exact .nil
      | cons x xs ihx =>
        intro ys us e g
        cases ys with
        | nil => simp [all2] at e
        | cons y ys =>
          simp only [all2, Bool.and_eq_true] at e
          cases g with | cons g1 g2 => exact .cons (ih e.1 g1) (ihx e.2 g2)
    unfold fits at e
    split at e
    · cases g; rw [← insts_b hρ e]; exact .bool _
    · simp only [Bool.and_eq_true, decide_eq_true_eq] at e
      obtain ⟨rfl, e⟩ := e
      cases g; rw [← insts_i hρ e]; exact .int _ _
    · cases g with | str q => exact .str (by rw [insts_v hρ e]; exact q)
    · cases g; exact .nilp
    · simp only [Bool.and_eq_true, decide_eq_true_eq] at e
      have := beq_tt e.2; subst this
      cases g with | addr q => exact .addr (by rw [N.nu _ _ e.1]; exact q)
    · simp only [Bool.and_eq_true, decide_eq_true_eq] at e
      have := beq_tt e.2; subst this
      cases g with | addrE q => rw [← insts_i hρ e.1.2]; exact .addrE (by rw [N.nu _ _ e.1.1]; exact q)
    · cases g; exact .nils
    · simp only [decide_eq_true_eq] at e
      cases g with
      | view0 q => exact .view0 (by rw [N.nu _ _ e]; exact q)
      | view q => exact .view (by rw [N.nu _ _ e]; exact q)
    · simp only [decide_eq_true_eq] at e
      cases g; exact .view0 (N.nu0 _ e)
    · rename_i y t e0 n
      split at e
      · simp only [Bool.and_eq_true, decide_eq_true_eq] at e
        obtain ⟨⟨e1, e2⟩, e3⟩ := e
        cases g
        split at e3
        · rename_i sz hz
          refine .pure (by simp [avOf, N.ka n .nil .nils e2 rfl]) hz (by omega) (.inl ⟨?_, rfl⟩)
          rw [insts_v hρ e1]; rfl
        · cases e3
      · split at e
        · rename_i t' e' p' hp
          simp only [Bool.and_eq_true, decide_eq_true_eq] at e
          obtain ⟨⟨e1, e2⟩, e3⟩ := e
          have := beq_tt e1; subst this
          have g' := pureOf_rel R g hp
          cases g' with
          | pure q1 q2 q3 q4 =>
            refine .pure (by simp [avOf, N.ka n p' u e3 q1]) q2 q3 ?_
            rw [N.S, insts_v hρ e2]; exact q4
        · cases e
    · cases g; exact .nilm
    · cases g; exact .nilf
    · simp only [Bool.and_eq_true] at e
      have := beq_tt e.1.1; subst this
      cases g with | func g1 g2 => exact .func (lists e.1.2 g1) (lists e.2 g2)
    · simp only [decide_eq_true_eq] at e
      cases g with | yieldf q => exact .yieldf (by rw [N.nu _ _ e]; exact q)
    · cases g; exact .nili
    · simp only [Bool.and_eq_true] at e
      have := beq_tt e.1; subst this
      cases g with | iface g => exact .iface (ih e.2 g)
    · cases g with | agg g => exact .agg (lists e g)
    · cases g with | tuple g => exact .tuple (lists e g)
    · cases e
theorem fitsTm_rel (R : HR P h0 h H ρ sh) (N : Names h H H' ρ σ β) (hρ : (σ.ev ρ).le ρ') {x y : Tr SV} {u : Tr AV} (e : fitsTm P sh σ β x y = true) (g : TmR P h H ρ y u) : TmR P h H' ρ' x u :=
  fun t v hv => fits_rel R N hρ (allK_get e t v hv) (g.at t)
theorem fitsL_rel (R : HR P h0 h H ρ sh) (N : Names h H H' ρ σ β) (hρ : (σ.ev ρ).le ρ') : ∀ {xs ys : List SV} {us : List AV}, all2 (fits P sh σ β 20) xs ys = true → SDs P h H ρ ys us → SDs P h H' ρ' xs us
  | [], [], _, e, .nil => .nil
  | x :: xs, y :: ys, _, e, .cons g1 g2 => by
    simp only [all2, Bool.and_eq_true] at e
    exact .cons (fits_rel R N hρ e.1 g1) (fitsL_rel R N hρ e.2 g2)
  | [], _ :: _, _, e, _ => by simp [all2] at e
  | _ :: _, [], _, e, _ => by simp [all2] at e
theorem fitsDefs_rel (R : HR P h0 h H ρ sh) (N : Names h H H' ρ σ β) (hρ : (σ.ev ρ).le ρ') : ∀ {xs ys : List SDef} {us : List ADef}, all2 (fitsDef P sh σ β) xs ys = true → DefsR P h H ρ ys us → DefsR P h H' ρ' xs us
  | [], [], _, e, .nil => .nil
  | x :: xs, y :: ys, _, e, .cons g1 g2 => by
    simp only [all2, Bool.and_eq_true] at e
    refine .cons ?_ (fitsDefs_rel R N hρ e.2 g2)
    obtain ⟨tx, ax⟩ := x
    obtain ⟨ty, ay⟩ := y
    obtain ⟨e1, _⟩ := e
    simp only [fitsDef, Bool.and_eq_true] at e1
    obtain ⟨h1, h2⟩ := e1
    cases g1 with
    | func g =>
      cases tx with
      | func a => simp only at h1; have := beq_tt h1; subst this; exact .func (fitsL_rel R N hρ h2 g)
      | collected a => simp at h1
    | collected q g =>
      cases tx with
      | func a => simp at h1
      | collected a =>
        simp only [decide_eq_true_eq] at h1
        exact .collected (by rw [N.nu _ _ h1]; exact q) (fitsL_rel R N hρ h2 g)
  | [], _ :: _, _, e, _ => by simp [all2] at e
  | _ :: _, [], _, e, _ => by simp [all2] at e
theorem todo_rel (N : Names h H H' ρ σ β) : ∀ {xs ys : List AItem}, todoOk β xs = true → ItsR H xs ys → ItsR H' xs ys
  | [], _, _, .nil => .nil
  | x :: xs, _, e, .cons g1 g2 => by
    simp only [todoOk, List.all_cons, Bool.and_eq_true] at e
    refine .cons ?_ (todo_rel N e.2 g2)
    cases g1 with
    | same _ q => exact .same _ q
    | inRangeFunc q =>
      have e1 := e.1
      simp only [sameId, decide_eq_true_eq] at e1
      exact .inRangeFunc (by rw [N.nu _ _ e1]; exact q)
    | endRangeFunc q =>
      have e1 := e.1
      simp only [sameId, decide_eq_true_eq] at e1
      exact .endRangeFunc (by rw [N.nu _ _ e1]; exact q)
theorem adoptF_rel (R : HR P h0 h H ρ sh) (N : Names h H H' ρ σ β) (hρ : (σ.ev ρ).le ρ') {x y z : SFrame} {u : AFrame} (e : adoptF P sh σ β x y = some z) (g : FR P h H ρ y u) : FR P h H' ρ' z u := by
  unfold adoptF at e
  obtain ⟨hc, e⟩ := cond_ok e
  cases e
  simp only [Bool.and_eq_true] at hc
  obtain ⟨⟨⟨c1, c2⟩, c3⟩, c4⟩ := hc
  refine ⟨g.fn, g.nt, fitsTm_rel R N hρ c1 g.tm, todo_rel N c3 g.todo, fitsDefs_rel R N hρ c2 g.defers, g.mode, g.deferred, ?_⟩
  have gr := g.round
  simp only
  generalize y.roundOf = yr at c4 gr
  generalize u.roundOf = ur at gr
  cases gr with
  | none => exact .none
  | some q =>
    simp only [sameId, decide_eq_true_eq] at c4
    exact .some (by rw [N.nu _ _ c4]; exact q)
theorem adoptFs_rel (R : HR P h0 h H ρ sh) (N : Names h H H' ρ σ β) (hρ : (σ.ev ρ).le ρ') : ∀ {xs ys zs : List SFrame} {us : List AFrame}, adoptFs P sh σ β xs ys = some zs → FRs P h H ρ ys us → FRs P h H' ρ' zs us
  | [], [], _, _, e, .nil => by cases e; exact .nil
  | x :: xs, y :: ys, _, _, e, .cons g1 g2 => by
    unfold adoptFs at e
    split at e
    · rename_i z zs h1 h2
      cases e
      exact .cons (adoptF_rel R N hρ h1 g1) (adoptFs_rel R N hρ h2 g2)
    · cases e
  | [], _ :: _, _, _, e, _ => by cases e
  | _ :: _, [], _, _, e, _ => by cases e

/-- The pattern's hidden parts. -/
noncomputable def hidOf (h : Heap) (H : Hid) (ρ : Env) (σ : Sub) (β : Blks) (x : SHeap) : Hid where
  ν a := match findA a β with
    | some (some c) => H.ν c
    | some none => some .nil
    | none => none
  κ n := match σ.p[n]? with
    | some p => match avOf h H ρ p with
      | some av => [av]
      | none => []
    | none => []
  κb b v := match x.get b with
    | some (.arr _ _ ver) => if v = ver ∧ ver < x.next then (match (match findA b β with | some (some c) => H.ν c | _ => none) with
      | some l => match l.at with
        | some a => match h.get a with
          | some (.cells cs) => cs
          | _ => []
        | none => []
      | none => []) else []
    | _ => []
  S := H.S
  fp b := match findA b β with
    | some (some c) => H.fp c
    | _ => []
theorem findA_mem {α : Type} : ∀ {l : List (Nat × α)} {n : Nat} {x : α}, findA n l = some x → (n, x) ∈ l
  | [], _, _, e => by cases e
  | (m, y) :: l, n, x, e => by
    unfold findA at e
    cases hb : Nat.beq m n with
    | true => rw [hb] at e; cases e; have := beq_tt hb; subst this; simp
    | false => rw [hb] at e; exact List.mem_cons_of_mem _ (findA_mem e)
theorem names_of {x : SHeap} : Names h H (hidOf h H ρ σ β x) ρ σ β := by
  refine ⟨fun a c e => by simp [hidOf, e], fun a e => by simp [hidOf, e], fun n p av e1 e2 => by simp [hidOf, e1, e2], rfl⟩

theorem adoptLoops_get {x y : SHeap} : ∀ (β : Blks) (t : Tr SObj) (b : Nat) (o : SObj), (adoptLoops x y β t).get b = some o → (t.get b = some o ∧ ∀ c p q, (b, some c) ∈ β → x.get b = some (.loop p) → y.get c = some (.loop q) → False) ∨ ∃ c p q, (b, some c) ∈ β ∧ x.get b = some (.loop p) ∧ y.get c = some (.loop q) ∧ o = .loop { q with tm := p.tm, defers := p.defers }
  | [], t, b, o, e => .inl ⟨e, fun c p q h => by simp at h⟩
  | (a, none) :: β, t, b, o, e => by
    rcases adoptLoops_get β t b o e with ⟨h, k⟩ | ⟨c, p, q, h1, h2⟩
    · refine .inl ⟨h, fun c p q hm => ?_⟩
      simp only [List.mem_cons, Prod.mk.injEq, reduceCtorEq, and_false, false_or] at hm
      exact k c p q hm
    · exact .inr ⟨c, p, q, List.mem_cons_of_mem _ h1, h2⟩
  | (a, some c) :: β, t, b, o, e => by
    unfold adoptLoops at e
    split at e
    · rename_i p q hp hq
      rw [Tr.get_set] at e
      split at e
      · rename_i hb
        cases e
        subst hb
        exact .inr ⟨c, p, q, by simp, hp, hq, rfl⟩
      · rename_i hb
        rcases adoptLoops_get β t b o e with ⟨h, k⟩ | ⟨c', p, q, h1, h2⟩
        · refine .inl ⟨h, fun c' p q hm => ?_⟩
          simp only [List.mem_cons, Prod.mk.injEq] at hm
          rcases hm with ⟨hm, _⟩ | hm
          · exact absurd hm hb
          · exact k c' p q hm
        · exact .inr ⟨c', p, q, List.mem_cons_of_mem _ h1, h2⟩
    · rename_i hne
      rcases adoptLoops_get β t b o e with ⟨h, k⟩ | ⟨c', p, q, h1, h2⟩
      · refine .inl ⟨h, fun c' p q hm hp hq => ?_⟩
        simp only [List.mem_cons, Prod.mk.injEq] at hm
        rcases hm with ⟨rfl, hm⟩ | hm
        · cases hm; exact hne _ _ hp hq
        · exact k c' p q hm hp hq
      · exact .inr ⟨c', p, q, List.mem_cons_of_mem _ h1, h2⟩
theorem distinct_inj {β : Blks} (h : distinctL (β.filterMap (·.2)) = true) : ∀ {a b c : Nat}, (a, some c) ∈ β → (b, some c) ∈ β → a = b := by
  induction β with
  | nil => intro a b c h1; simp at h1
  | cons x β ih =>
    intro a b c h1 h2
    obtain ⟨xa, xc⟩ := x
    cases xc with
    | none =>
      simp only [List.filterMap_cons] at h
      simp only [List.mem_cons, Prod.mk.injEq, reduceCtorEq, and_false, false_or] at h1 h2
      exact ih h h1 h2
    | some d =>
      simp only [List.filterMap_cons, distinctL, Bool.and_eq_true, Bool.not_eq_true'] at h
      have hno : ∀ e, (e, some d) ∉ β := by
        intro e he
        have : d ∈ β.filterMap (·.2) := List.mem_filterMap.2 ⟨(e, some d), he, rfl⟩
        have hc := h.1
        simp at hc
        exact hc _ he
      simp only [List.mem_cons, Prod.mk.injEq] at h1 h2
      rcases h1 with ⟨rfl, h1⟩ | h1
      · cases h1
        rcases h2 with ⟨rfl, _⟩ | h2
        · rfl
        · exact absurd h2 (hno _)
      · rcases h2 with ⟨rfl, h2⟩ | h2
        · cases h2; exact absurd h1 (hno _)
        · exact ih h.2 h1 h2
theorem findA_of_mem {β : Blks} (h : distinctL (β.map (·.1)) = true) : ∀ {a : Nat} {c : Option Nat}, (a, c) ∈ β → findA a β = some c := by
  induction β with
  | nil => intro a c h1; simp at h1
  | cons x β ih =>
    intro a c h1
    obtain ⟨xa, xc⟩ := x
    simp only [List.map_cons, distinctL, Bool.and_eq_true, Bool.not_eq_true'] at h
    unfold findA
    simp only [List.mem_cons, Prod.mk.injEq] at h1
    rcases h1 with ⟨rfl, rfl⟩ | h1
    · simp
    · have hne : xa ≠ a := by
        intro q; subst q
        have hc := h.1
        simp at hc
        exact hc _ h1
      have : Nat.beq xa a = false := by cases hb : Nat.beq xa a with | true => exact absurd (beq_tt hb) hne | false => rfl
      rw [this]
      exact ih h.2 h1

theorem fitsObj_some {o : SObj} {c : Nat} (k : fitsObj P sh σ β o (some c) = true) : ∃ oc, sh.get c = some oc ∧ own oc = true := by
  cases o with
  | cells xs =>
    simp only [fitsObj] at k
    split at k
    · rename_i hg; exact ⟨_, hg, rfl⟩
    · cases k
  | arr t e v =>
    simp only [fitsObj] at k
    split at k
    · rename_i hg; exact ⟨_, hg, rfl⟩
    · cases k
  | froz t e n => simp [fitsObj] at k
  | tree t e hole =>
    cases hole with
    | some _ => simp [fitsObj] at k
    | none =>
      simp only [fitsObj] at k
      split at k
      · rename_i hg; exact ⟨_, hg, rfl⟩
      · cases k
  | loop x =>
    simp only [fitsObj] at k
    split at k
    · rename_i hg; exact ⟨_, hg, rfl⟩
    · cases k
  | deferred ds =>
    cases ds with
    | none =>
      simp only [fitsObj] at k
      split at k
      · rename_i hg; exact ⟨_, hg, rfl⟩
      · cases k
    | some ds =>
      simp only [fitsObj] at k
      split at k
      · rename_i hg; exact ⟨_, hg, rfl⟩
      · cases k
/-- A state that is an instance of a pattern. -/
theorem adopt_rel {S0 : Nat → Prop} {outer : List AFrame} {x y z : SMach} {m : AMach} {φ : List Nat} (e : adopt P x φ σ β y = some z) (hρ : (σ.ev ρ).le ρ') (g : MR P h0 S0 outer ρ y m) : MR P h0 S0 outer ρ' z m := by
  obtain ⟨H0, cs, h1, h2, h3, h4, h5⟩ := g
  obtain ⟨f, callers, h⟩ := m
  simp only at h1 h2 h3 h4
  unfold adopt at e
  simp only at e
  obtain ⟨H00, x00, R00, s00⟩ := settleAll_rel (P := P) h4
  obtain ⟨H, x1, R, s1⟩ := freezes_rel (P := P) (φ.map .view) R00
  have x1 := x00.trans x1
  have s1 := s00.trans s1
  generalize freezes (settleAll P y.h) (φ.map .view) = sh at e R
  split at e
  · rename_i fr callers' hf hc
    obtain ⟨hH, e⟩ := cond_ok e
    cases e
    unfold adoptH at hH
    simp only [Bool.and_eq_true] at hH
    obtain ⟨⟨⟨⟨⟨k1, k2⟩, k2'⟩, k3⟩, k4⟩, k5⟩ := hH
    have hats := beq_tt k4
    have N : Names h H (hidOf h H ρ σ β x.h) ρ σ β := names_of
    -- the objects
    have objs : ∀ b o, (adoptLoops x.h sh β x.h.t).get b = some o → (∃ c, findA b β = some (some c) ∧ (own o = true → ∃ oc, sh.get c = some oc ∧ own oc = true)) ∨ (findA b β = some none ∧ ∀ l a, (hidOf h H ρ σ β x.h).ν b = some l → l.at = some a → False) := by
      intro b o ho
      have main : ∀ o, x.h.t.get b = some o → (∃ c, findA b β = some (some c) ∧ (∃ oc, sh.get c = some oc ∧ own oc = true)) ∨ (findA b β = some none) := by
        intro o ho
        have k := allK_get k1 b o ho
        simp only [Bool.and_eq_true] at k
        obtain ⟨_, k⟩ := k
        split at k
        · rename_i c hcb
          cases c with
          | none => exact .inr hcb
          | some c =>
            exact .inl ⟨c, hcb, fitsObj_some k⟩
        · cases k
      have fin : ∀ o', x.h.t.get b = some o' → _ := fun o' ho' => (main o' ho').imp (fun ⟨c, c1, c2⟩ => (⟨c, c1, fun _ => c2⟩ : ∃ c, findA b β = some (some c) ∧ (own o = true → ∃ oc, sh.get c = some oc ∧ own oc = true))) (fun q => (⟨q, fun l a n1 l1 => by simp [hidOf, q] at n1; subst n1; cases l1⟩ : findA b β = some none ∧ ∀ l a, (hidOf h H ρ σ β x.h).ν b = some l → l.at = some a → False))
      rcases adoptLoops_get β x.h.t b o ho with ⟨ho, _⟩ | ⟨c, p, q, _, hp, _, _⟩
      · exact fin o ho
      · exact fin _ hp
    refine ⟨hidOf h H ρ σ β x.h, cs, h1, adoptF_rel R N hρ hf (h2.mono x1), adoptFs_rel R N hρ hc (h3.mono x1), ⟨?_, ?_, ?_, R.S_lt, R.next, R.keep, ?_, ?_, ?_, ?_, R.none_, ?_, ?_⟩, fun a ha => (s1 a ha).elim (h5 a) .inr⟩
    · intro b o ho
      rcases adoptLoops_get β x.h.t b o ho with ⟨ho, hnl⟩ | ⟨c, p, q, hm, hp, hq, rfl⟩
      · have k := allK_get k1 b o ho
        simp only [Bool.and_eq_true] at k
        obtain ⟨kv, k⟩ := k
        split at k
        · rename_i cc hcb
          cases o with
          | arr t e0 ver =>
            cases cc with
            | none =>
              simp only [fitsObj, Bool.and_eq_true] at k
              obtain ⟨ka, kb⟩ := k
              split at kb
              · rename_i sz hz
                exact .arr0 (by rw [insts_v hρ ka]; rfl) (N.nu0 _ hcb) hz (by omega)
              · cases kb
            | some c =>
              simp only [fitsObj] at k
              split at k
              · rename_i t' e' v' hg
                simp only [Bool.and_eq_true] at k
                have := beq_tt k.1; subst this
                have hv := insts_v hρ k.2
                have hnu := N.nu _ _ hcb
                have hoc := R.objs _ _ hg
                cases hoc with
                | arr0 q1 q2 q3 q4 => exact .arr0 (by rw [hv]; exact q1) (by rw [hnu]; exact q2) q3 q4
                | arr q1 q2 q3 q4 =>
                  rename_i a len sz l acs
                  refine .arr (by rw [hv]; exact q1) (by rw [hnu]; exact q2) ⟨q3.size, q3.pos, q3.len, q3.get, q3.row⟩ ?_
                  have hvlt : ver < x.h.next := by simpa [verOk, Nat.blt_eq] using kv
                  have ho' : x.h.get b = some (.arr t e0 ver) := ho
                  simp only [hidOf, ho', hvlt, and_self, if_true, hcb, q2, Loc.at, q3.get]
              · cases k
          | cells xs =>
            cases cc with
            | none => simp [fitsObj] at k
            | some c =>
              simp only [fitsObj] at k
              split at k
              · rename_i ys hg
                have hoc := R.objs _ _ hg
                cases hoc with
                | cells q1 q2 q3 => exact .cells (by rw [N.nu _ _ hcb]; exact q1) q2 (fitsL_rel R N hρ k q3)
              · cases k
          | froz t e0 n => cases cc <;> simp [fitsObj] at k
          | tree t e0 hole =>
            cases hole with
            | some _ => cases cc <;> simp [fitsObj] at k
            | none =>
              cases cc with
              | none =>
                simp only [fitsObj, Bool.and_eq_true] at k
                obtain ⟨ka, kb⟩ := k
                split at kb
                · rename_i sz hz
                  exact .tree0 (by rw [insts_v hρ ka]; rfl) (N.nu0 _ hcb) hz (by omega) (by simp [hidOf, hcb])
                · cases kb
              | some c =>
                simp only [fitsObj] at k
                split at k
                · rename_i t' e' hg
                  simp only [Bool.and_eq_true] at k
                  have := beq_tt k.1; subst this
                  have hv := insts_v hρ k.2
                  have hnu := N.nu _ _ hcb
                  have hfp : (hidOf h H ρ σ β x.h).fp b = H.fp c := by simp [hidOf, hcb]
                  have hoc := R.objs _ _ hg
                  cases hoc with
                  | tree0 q1 q2 q3 q4 q5 => exact .tree0 (by rw [hv]; exact q1) (by rw [hnu]; exact q2) q3 q4 (by rw [hfp, q5])
                  | tree q1 q2 q3 q4 => exact .tree (by rw [hv]; exact q1) (by rw [hnu]; exact q2) q3 (by rw [hfp]; exact q4)
                · cases k
          | deferred ds =>
            cases cc with
            | none => cases ds <;> simp [fitsObj] at k
            | some c =>
              cases ds with
              | none =>
                simp only [fitsObj] at k
                split at k
                · rename_i hg
                  have hoc := R.objs _ _ hg
                  cases hoc with
                  | deferred q1 q2 q3 =>
                    rename_i yy a
                    cases yy with
                    | none => exact .deferred (y := none) (by rw [N.nu _ _ hcb]; exact q1) q2 trivial
                    | some _ => exact q3.elim
                · cases k
              | some ds =>
                simp only [fitsObj] at k
                split at k
                · rename_i es hg
                  have hoc := R.objs _ _ hg
                  cases hoc with
                  | deferred q1 q2 q3 =>
                    rename_i yy a
                    cases yy with
                    | none => exact q3.elim
                    | some us => exact .deferred (y := some us) (by rw [N.nu _ _ hcb]; exact q1) q2 (fitsDefs_rel R N hρ k q3)
                · cases k
          | loop xl =>
            exfalso
            cases cc with
            | none => simp [fitsObj] at k
            | some c =>
              simp only [fitsObj] at k
              split at k
              · rename_i yl hg
                exact hnl c xl yl (findA_mem hcb) ho hg
              · cases k
        · cases k
      · -- a loop
        have k := allK_get k1 b _ hp
        simp only [Bool.and_eq_true] at k
        obtain ⟨_, k⟩ := k
        rw [findA_of_mem k2' hm] at k
        simp only [fitsObj, hq, Bool.and_eq_true, decide_eq_true_eq] at k
        have hoc := R.objs _ _ hq
        cases hoc with
        | loop q1 q2 q3 =>
          exact .loop (by rw [N.nu _ _ (findA_of_mem k2' hm)]; exact q1) q2 ⟨q3.state, q3.pending, q3.fn, q3.nt, fitsTm_rel R N hρ k.1 q3.tm, q3.params, q3.assign, q3.body, by rw [N.nu _ _ k.2]; exact q3.defers⟩
    · intro b b' o o' l l' a e1 e2 w1 w2 n1 n2 a1 a2
      rcases objs b o e1 with ⟨c, c1, c2⟩ | ⟨_, c2⟩
      · rcases objs b' o' e2 with ⟨c', c1', c2'⟩ | ⟨_, c2'⟩
        · obtain ⟨oc, p1, p2⟩ := c2 w1
          obtain ⟨oc', p1', p2'⟩ := c2' w2
          rw [N.nu _ _ c1] at n1
          rw [N.nu _ _ c1'] at n2
          have := R.inj _ _ _ _ _ _ _ p1 p1' p2 p2' n1 n2 a1 a2
          subst this
          exact distinct_inj k2 (findA_mem c1) (findA_mem c1')
        · exact (c2' _ _ n2 a2).elim
      · exact (c2 _ _ n1 a1).elim
    · intro b o l a e1 w1 n1 a1
      rcases objs b o e1 with ⟨c, c1, c2⟩ | ⟨_, c2⟩
      · obtain ⟨oc, p1, p2⟩ := c2 w1
        rw [N.nu _ _ c1] at n1
        exact R.ownS _ _ _ _ p1 p2 n1 a1
      · exact (c2 _ _ n1 a1).elim
    · intro b hb
      have : findA b β = none := by
        cases hq : findA b β with
        | none => rfl
        | some c =>
          have hm := findA_mem hq
          have := List.all_eq_true.1 k3 _ hm
          simp only [Nat.blt_eq] at this
          have hb : x.h.next ≤ b := hb
          omega
      simp [hidOf, this]
    · intro b l a n1 a1
      simp only [hidOf] at n1
      split at n1
      · exact R.nu_lt _ _ _ n1 a1
      · cases n1; cases a1
      · cases n1
    · intro n hn
      have hn : x.h.ats ≤ n := hn
      have : σ.p[n]? = none := List.getElem?_eq_none (by omega)
      simp [hidOf, this]
    · intro b v hv
      have hv : x.h.next ≤ v := hv
      simp only [hidOf]
      split
      · rw [if_neg (by omega)]
      · rfl
    · intro b o ho
      show b < x.h.next
      rcases objs b o ho with ⟨c, c1, _⟩ | ⟨c1, _⟩
      all_goals
        have hm := findA_mem c1
        have := List.all_eq_true.1 k3 _ hm
        simpa [Nat.blt_eq] using this
    · -- the trees
      have src : ∀ b o, (adoptLoops x.h sh β x.h.t).get b = some o → isTreeO o = true → (∃ c oc, findA b β = some (some c) ∧ sh.get c = some oc ∧ isTreeO oc = true) ∨ findA b β = some none := by
        intro b o ho w
        rcases adoptLoops_get β x.h.t b o ho with ⟨ho, _⟩ | ⟨c, p, q, _, _, _, rfl⟩
        · have k := allK_get k1 b o ho
          simp only [Bool.and_eq_true] at k
          obtain ⟨_, k⟩ := k
          split at k
          · rename_i cc hcb
            cases cc with
            | none => exact .inr hcb
            | some c =>
              cases o with
              | tree t e0 hole =>
                cases hole with
                | some _ => simp [fitsObj] at k
                | none =>
                  simp only [fitsObj] at k
                  split at k
                  · rename_i hg; exact .inl ⟨c, _, hcb, hg, rfl⟩
                  · cases k
              | _ => cases w
          · cases k
        · cases w
      have hfp : ∀ {b c : Nat}, findA b β = some (some c) → (hidOf h H ρ σ β x.h).fp b = H.fp c := fun q => by simp [hidOf, q]
      have hfp0 : ∀ {b : Nat}, findA b β = some none → (hidOf h H ρ σ β x.h).fp b = [] := fun q => by simp [hidOf, q]
      refine ⟨fun b o e w a ha => ?_, fun b o e w => ?_, fun b b' o o' a e e' w w' ha ha' => ?_, fun b o b' o' l a e w ha e' w' n l1 => ?_⟩
      · rcases src b o e w with ⟨c, oc, c1, c2, c3⟩ | c1
        · rw [hfp c1] at ha
          exact R.tr.lt _ _ c2 c3 _ ha
        · rw [hfp0 c1] at ha; simp at ha
      · rcases src b o e w with ⟨c, oc, c1, c2, c3⟩ | c1
        · rw [hfp c1]; exact R.tr.nd _ _ c2 c3
        · rw [hfp0 c1]; exact List.nodup_nil
      · rcases src b o e w with ⟨c, oc, c1, c2, c3⟩ | c1
        · rw [hfp c1] at ha
          rcases src b' o' e' w' with ⟨c', oc', c1', c2', c3'⟩ | c1'
          · rw [hfp c1'] at ha'
            have := R.tr.inj _ _ _ _ _ c2 c2' c3 c3' ha ha'
            subst this
            exact distinct_inj k2 (findA_mem c1) (findA_mem c1')
          · rw [hfp0 c1'] at ha'; simp at ha'
        · rw [hfp0 c1] at ha; simp at ha
      · rcases src b o e w with ⟨c, oc, c1, c2, c3⟩ | c1
        · rw [hfp c1] at ha
          rcases objs b' o' e' with ⟨c', c1', c2'⟩ | ⟨_, c2'⟩
          · obtain ⟨oc', p1', p2'⟩ := c2' w'
            rw [N.nu _ _ c1'] at n
            exact R.tr.ow _ _ _ _ _ _ c2 c3 ha p1' p2' n l1
          · exact (c2' _ _ n l1).elim
        · rw [hfp0 c1] at ha; simp at ha
  · cases e
end
end Go.Sym
/- How a function's contract is shown. -/
namespace Go.Sym
open Go Go.Abs
set_option linter.unusedVariables false
set_option linter.unusedSimpArgs false

/-- The machine stands at the end of the call of f, which has come to r. -/
def Ends (P : Program) (f : FuncId) (h0 : Heap) (S0 : Nat → Prop) (outer : List AFrame) (r : V) (m : AMach) : Prop :=
  m.callers = outer ∧ m.fr.fn = f ∧ m.fr.mode = .returning ∧ m.fr.defers = [] ∧ m.fr.deferred = false ∧ h0.next ≤ m.h.next ∧ (∀ c, c < h0.next → m.h.get c = h0.get c) ∧ (∀ c, m.h.next ≤ c → m.h.get c = none) ∧
  ∃ fn us, P.funcs[f]? = some fn ∧ aresults P m.h m.fr.tm fn.results.toList = some us ∧ ResR P m.h (fun c => S0 c ∨ (h0.next ≤ c ∧ c < m.h.next)) fn.resultTypes.toList r us
/-- From the state s, with these values of its variables, the call of f comes to r. -/
def Comes (C : Cfg) (f : FuncId) (s : SMach) (ρ : Env) (r : V) : Prop :=
  ∀ h0 S0 outer m, (∀ ρ', ρ.le ρ' → MR C.P h0 S0 outer ρ' s m) → ∃ m', Leads C.P m m' ∧ Ends C.P f h0 S0 outer r m'
/-- More value variables: what calls have returned. -/
def Env.ext (ρ : Env) (l : List V) : Env := { ρ with v := ρ.v ++ l }
theorem Env.le_ext (ρ : Env) (l : List V) : ρ.le (ρ.ext l) := ⟨rfl, rfl, l, rfl⟩

section
variable {C : Cfg} {f : FuncId} {s s' : SMach} {ρ : Env} {r : V}

/-- A stretch of the run. -/
theorem Comes.step (K : ProgOk C.P) {n : Nat} {ch : List Bool} {φ : List Nat} {σ : Sub} {β : Blks} {ev : List Ev} (e : stretch C n ch s s' φ σ β = some (s', ev)) (l : List V) (hev : EvOk C.P (ρ.ext l) s.h.nv ev) (k : Comes C f s' (σ.ev (ρ.ext l)) r) : Comes C f s ρ r := by
  intro h0 S0 outer m g
  unfold stretch at e
  split at e
  · rename_i z ev' hr
    simp only [Option.map_eq_some_iff] at e
    obtain ⟨m1, ha, e⟩ := e
    cases e
    obtain ⟨m2, k1, k2⟩ := srun_rel K n (g _ (ρ.le_ext l)) hr hev
    obtain ⟨m3, k3, k4⟩ := k h0 S0 outer m2 fun ρ' hρ' => adopt_rel ha hρ' k2
    exact ⟨m3, k1.trans k3, k4⟩
  · cases e

/-- The end. -/
theorem Comes.last (K : ProgOk C.P) {n : Nat} {ch : List Bool} {e0 : E} {ev : List Ev} (e : Sym.last C f n ch s = some (e0, ev)) (l : List V) (hev : EvOk C.P (ρ.ext l) s.h.nv ev) (hr : e0.v (ρ.ext l) = r) : Comes C f s ρ r := by
  intro h0 S0 outer m g
  unfold Sym.last at e
  split at e
  · rename_i z ev' hrun
    simp only [Option.map_eq_some_iff] at e
    obtain ⟨⟨e1, ev2⟩, hs, e⟩ := e
    cases e
    rw [EvOk.append] at hev
    obtain ⟨m2, k1, H, cs, h1, h2, h3, R, B⟩ := srun_rel K n (g _ (ρ.le_ext l)) hrun hev.1
    refine ⟨m2, k1, ?_⟩
    unfold send at hs
    split at hs
    · rename_i hc hm hd
      rw [hc] at h3
      cases h3
      have gm := h2.mode
      rw [hm] at gm
      have gd := h2.defers
      rw [hd] at gd
      obtain ⟨hq, hs⟩ := cond_ok hs
      simp only [Bool.and_eq_true, Bool.not_eq_true'] at hq
      have hfn := beq_tt hq.1
      split at hs
      · rename_i fn hf
        split at hs
        · rename_i vs c hres
          simp only at hs
          -- the results
          have hcH : Holds (ρ.ext l) c := by
            have : ev2 = asks c := by
              split at hs
              · simp only [Option.map_eq_some_iff] at hs
                obtain ⟨_, _, q⟩ := hs
                cases q; rfl
              · cases hs
              · simp only [Option.map_eq_some_iff] at hs
                obtain ⟨_, _, q⟩ := hs
                cases q; rfl
            have := hev.2
            rw [‹ev2 = asks c›] at this
            exact EvOk.asks.1 this
          obtain ⟨us, u1, u2⟩ := sresults_rel R h2.tm hres hcH
          obtain ⟨H0, x0, R0, s0⟩ := settleAll_rel (P := C.P) R
          obtain ⟨H1, x1, R1, s1⟩ := freezes_rel (P := C.P) (viewsOf vs) R0
          have x1 := x0.trans x1
          have s1 := s0.trans s1
          generalize freezes (settleAll C.P z.h) (viewsOf vs) = sh1 at hs R1
          have hS : ∀ a, H1.S a → S0 a ∨ (h0.next ≤ a ∧ a < m2.h.next) := by
            intro a ha
            have hlt := R1.S_lt a ha
            rcases s1 a ha with q | q
            · rcases B a q with q | q
              · exact .inl q
              · exact .inr ⟨q, hlt⟩
            · exact .inr ⟨q, hlt⟩
          have hk : Kept m2.h (argS m2.h H1 false) m2.h (fun c => S0 c ∨ (h0.next ≤ c ∧ c < m2.h.next)) := fun a ha => ⟨hS a ha, fun _ e => e⟩
          refine ⟨by rw [h1]; rfl, by rw [h2.fn, hfn], gm.ret_iff, ?_, by rw [h2.deferred, hq.2], R.next, R.keep, R.none_, fn, us, hf, u1, ?_⟩
          · generalize m2.fr.defers = md at gd; cases gd; rfl
          · split at hs
            · rename_i t v ht
              simp only [Option.map_eq_some_iff] at hs
              obtain ⟨e', he, q⟩ := hs
              cases q
              cases u2 with
              | cons g1 g2 =>
                cases g2
                rw [ht]
                refine ⟨_, rfl, ?_⟩
                rw [← hr]
                exact (argE_rel R1 (g1.mono x1) he).mono hk
            · cases hs
            · rename_i ts hne1 hne2
              simp only [Option.map_eq_some_iff] at hs
              obtain ⟨l', he, q⟩ := hs
              cases q
              have ga := (argsE_rel R1 (u2.mono x1) he).mono hk
              unfold ResR
              split
              · rename_i t ht
                first | exact (hne1 _ ht).elim | exact (hne2 _ ht).elim | exact (hne2 _ _ ht rfl).elim | exact (hne1 _ _ ht rfl).elim | exact (hne2 _ _ ht).elim | exact (hne1 _ _ ht).elim
              · exact ⟨_, by rw [← hr, listE_v], ga⟩
        · cases hs
      · cases hs
    · cases hs
  · cases e

theorem sargs_rel {P : Program} {h : Heap} {H : Hid} {ρ : Env} : ∀ {ts : List TypeId} {j : Nat} {xs : List V} {as_ : List AV} {vs : List SV}, ArgsR P h H.S ts xs as_ → sargs P j ts = some vs → (∀ (i : Nat) x, xs[i]? = some x → ρ.v[j + i]? = some x) → (∀ (i : Nat) a, as_[i]? = some a → H.κ (j + i) = a.cells) → SDs P h H ρ vs as_
  | [], j, _, _, vs, .nil, e, _, _ => by cases e; exact .nil
  | t :: ts, j, _, _, vs, .cons (x := x) (a := a) g1 g2, e, hx, hk => by
    unfold sargs at e
    split at e
    · rename_i cs l h1 h2
      simp only [Option.map_eq_some_iff] at e
      obtain ⟨v, h3, e⟩ := e
      cases e
      obtain ⟨p1, p2⟩ := g1.cells
      have hv : (E.vv j).v ρ = x := by
        have := hx 0 x rfl
        simp only [E.v, List.getD_eq_getElem?_getD]
        rw [show j = j + 0 from rfl, this]; rfl
      have hc : SDs P h H ρ cs a.cells := by
        refine cellsOf_rel (Nat.le_refl _) (by rw [hv]; exact p1) h1 ?_
        intro k av hk'
        have := hk 0 a rfl
        simp only [avOf, Nat.zero_add]
        rw [show j = j + 0 from rfl, this]; exact hk'
      refine .cons (packS_rel (x := x) hc p2 h3) (sargs_rel g2 h2 (fun i y hy => ?_) (fun i b hb => ?_))
      · rw [show j + 1 + i = j + (i + 1) from by omega]; exact hx (i + 1) y (by simpa using hy)
      · rw [show j + 1 + i = j + (i + 1) from by omega]; exact hk (i + 1) b (by simpa using hb)
    · cases e
theorem ArgsR.lengths {P : Program} {h : Heap} {S : Nat → Prop} {ts : List TypeId} {xs : List V} {as_ : List AV} (g : ArgsR P h S ts xs as_) : as_.length = ts.length ∧ xs.length = ts.length := by
  induction g with
  | nil => exact ⟨rfl, rfl⟩
  | cons _ _ ih => simp [ih.1, ih.2]

/-- A contract. -/
theorem Fn.of {xs : List V} (hb : sbegin C.P f = some s) (k : Comes C f s ⟨[], [], xs⟩ r) : Fn C.P f xs r := by
  intro h S as_ fn hfn hS hno ga
  unfold sbegin at hb
  rw [hfn] at hb
  simp only at hb
  split at hb
  · rename_i vs hv
    simp only [Option.map_eq_some_iff] at hb
    obtain ⟨fr, he, hb⟩ := hb
    subst hb
    have lens := ga.lengths
    let H : Hid := { ν := fun _ => none, κ := fun n => match as_[n]? with | some a => a.cells | none => [], κb := fun _ _ => [], S, fp := fun _ => [] }
    have hargs : ∀ ρ', (⟨[], [], xs⟩ : Env).le ρ' → SDs C.P h H ρ' vs as_ := by
      intro ρ' hρ'
      obtain ⟨_, _, l, hl⟩ := hρ'
      refine sargs_rel (H := H) ga hv (fun i x hx => ?_) (fun i a ha => ?_)
      · rw [hl, Nat.zero_add]
        simp only
        rw [List.getElem?_append_left (List.getElem?_eq_some_iff.1 hx).1]; exact hx
      · simp only [H, Nat.zero_add, ha]
    obtain ⟨g, g1, _⟩ := senter_rel (hargs _ ⟨rfl, rfl, [], by simp⟩) he
    refine ⟨g, g1, fun callers => ?_⟩
    have start : ∀ ρ', (⟨[], [], xs⟩ : Env).le ρ' → MR C.P h S callers ρ' { fr, callers := [], h := { next := 0, ats := fn.params.size, nv := fn.params.size, t := .nil } } { fr := g, callers, h } := by
      intro ρ' hρ'
      obtain ⟨g', g1', g2⟩ := senter_rel (hargs ρ' hρ') he
      rw [g1] at g1'; cases g1'
      have hnil : ∀ b o, (({ next := 0, ats := fn.params.size, nv := fn.params.size, t := .nil } : SHeap).get b) = some o → False := by
        intro b o e
        have : (Tr.nil : Tr SObj).get b = some o := e
        rw [Tr.get_nil] at this; cases this
      refine ⟨H, [], rfl, g2, .nil, ⟨fun b o e => (hnil b o e).elim, fun b _ o _ _ _ _ e => (hnil b o e).elim, fun b o _ _ e => (hnil b o e).elim, hS, Nat.le_refl _, fun _ _ => rfl, fun _ _ => rfl, (fun _ _ _ e => by cases e), ?_, fun _ _ _ => rfl, hno, fun b o e => (hnil b o e).elim, ⟨fun b o e => (hnil b o e).elim, fun b o e => (hnil b o e).elim, fun b _ o _ _ e => (hnil b o e).elim, fun b o _ _ _ _ e => (hnil b o e).elim⟩⟩, fun a ha => .inl ha⟩
      intro n hn
      have hn : fn.params.size ≤ n := hn
      have : as_[n]? = none := List.getElem?_eq_none (by rw [lens.1]; simpa using hn)
      simp only [H, this]
    obtain ⟨m', k1, k2⟩ := k h S callers _ start
    obtain ⟨q1, q2, q3, q4, q5, q6, q7, q8, fn', us, q9, q10, q11⟩ := k2
    rw [hfn] at q9; cases q9
    obtain ⟨mf, mc, mh⟩ := m'
    simp only at q1 q2 q3 q4 q5 q6 q7 q8 q10 q11
    subst q1
    exact ⟨mf, mh, us, q6, q7, q8, q11, q2, q3, q4, q5, q10, k1⟩
  · cases hb

/-! ### Results that are ours -/
/-- The end of a call that has come to r, which lies in blocks of the run. -/
def EndsO (P : Program) (f : FuncId) (h0 : Heap) (outer : List AFrame) (r : V) (m : AMach) : Prop :=
  m.callers = outer ∧ m.fr.fn = f ∧ m.fr.mode = .returning ∧ m.fr.defers = [] ∧ m.fr.deferred = false ∧ h0.next ≤ m.h.next ∧ (∀ c, c < h0.next → m.h.get c = h0.get c) ∧ (∀ c, m.h.next ≤ c → m.h.get c = none) ∧
  ∃ fn us F, P.funcs[f]? = some fn ∧ aresults P m.h m.fr.tm fn.results.toList = some us ∧ ResO P m.h fn.resultTypes.toList r us F ∧ F.Nodup ∧ ∀ a, a ∈ F → h0.next ≤ a ∧ a < m.h.next
def ComesO (C : Cfg) (f : FuncId) (s : SMach) (ρ : Env) (r : V) : Prop :=
  ∀ h0 S0 outer m, (∀ ρ', ρ.le ρ' → MR C.P h0 S0 outer ρ' s m) → ∃ m', Leads C.P m m' ∧ EndsO C.P f h0 outer r m'
theorem ComesO.step (K : ProgOk C.P) {n : Nat} {ch : List Bool} {φ : List Nat} {σ : Sub} {β : Blks} {ev : List Ev} (e : stretch C n ch s s' φ σ β = some (s', ev)) (l : List V) (hev : EvOk C.P (ρ.ext l) s.h.nv ev) (k : ComesO C f s' (σ.ev (ρ.ext l)) r) : ComesO C f s ρ r := by
  intro h0 S0 outer m g
  unfold stretch at e
  split at e
  · rename_i z ev' hr
    simp only [Option.map_eq_some_iff] at e
    obtain ⟨m1, ha, e⟩ := e
    cases e
    obtain ⟨m2, k1, k2⟩ := srun_rel K n (g _ (ρ.le_ext l)) hr hev
    obtain ⟨m3, k3, k4⟩ := k h0 S0 outer m2 fun ρ' hρ' => adopt_rel ha hρ' k2
    exact ⟨m3, k1.trans k3, k4⟩
  · cases e
theorem ownVals_rel {P : Program} {h0 h : Heap} {H : Hid} {ρ : Env} {sh : SHeap} (R : HR P h0 h H ρ sh) : ∀ {ts : List TypeId} {vs : List SV} {us : List AV} {es : List E} {bs : List Nat}, SDs P h H ρ vs us → ownVals P sh ts vs = some (es, bs) → Owned sh bs ∧ ArgsO P h ts (es.map (E.v ρ)) us (bs.flatMap (blkOf H sh))
  | [], [], us, es, bs, g, k => by cases k; cases g; exact ⟨fun k hk => by simp at hk, .nil⟩
  | t :: ts, v :: vs, us, es, bs, g, k => by
    cases g with
    | cons g1 g2 =>
    rename_i u us'
    unfold ownVals at k
    split at k
    · rename_i e l h1 h2
      obtain ⟨e, eb⟩ := e
      obtain ⟨l, lb⟩ := l
      cases k
      obtain ⟨hp, h1⟩ := cond_ok h1
      obtain ⟨w1, w2⟩ := ownVals_rel R g2 h2
      have fin : Owned sh eb ∧ OVal P h t (e.v ρ) u (eb.flatMap (blkOf H sh)) := by
        unfold packed? at hp
        split at hp
        · rename_i ht
          split at hp
          · rename_i cs
            simp only [decide_eq_true_eq] at hp
            cases g1 with
            | agg g1 =>
              obtain ⟨c, r, y1, y2, y3⟩ := ownVal_rel R h1 g1
              have hl := y2.length
              rw [hp] at hl
              have hl2 := g1.length
              have hr : r = [] := by
                rw [y1] at hl2
                simp at hl hl2
                exact List.length_eq_zero_iff.1 (by omega)
              subst hr
              rw [List.append_nil] at y1
              subst y1
              exact ⟨y3, _, y2, .inl ⟨ht, rfl⟩⟩
          · cases hp
        · rename_i ht
          simp only [Bool.and_eq_true, decide_eq_true_eq] at hp
          have hb : v ≠ .bad := by intro q; subst q; simp [SV.one] at hp
          have gc := g1.cells' hb
          rw [g1.one' hp.1] at gc
          obtain ⟨c, r, y1, y2, y3⟩ := ownVal_rel R h1 gc
          have hl := y2.length
          rw [hp.2] at hl
          have hl' : c.length = 1 := by simpa using hl.symm
          cases c with
          | nil => simp at hl'
          | cons a c =>
            cases c with
            | nil => simp at y1; obtain ⟨rfl, _⟩ := y1; exact ⟨y3, _, y2, .inr ⟨ht, rfl⟩⟩
            | cons b c => simp at hl'
        · cases hp
      exact ⟨fin.1.append w1, by rw [List.flatMap_append]; exact .cons fin.2 w2⟩
    · cases k
  | [], _ :: _, _, _, _, _, k => by cases k
  | _ :: _, [], _, _, _, _, k => by cases k
theorem ComesO.last (K : ProgOk C.P) {n : Nat} {ch : List Bool} {e0 : E} {ev : List Ev} (e : Sym.lastO C f n ch s = some (e0, ev)) (l : List V) (hev : EvOk C.P (ρ.ext l) s.h.nv ev) (hr : e0.v (ρ.ext l) = r) : ComesO C f s ρ r := by
  intro h0 S0 outer m g
  unfold Sym.lastO at e
  split at e
  · rename_i z ev' hrun
    simp only [Option.map_eq_some_iff] at e
    obtain ⟨⟨e1, ev2⟩, hs, e⟩ := e
    cases e
    rw [EvOk.append] at hev
    obtain ⟨m2, k1, H, cs, h1, h2, h3, R, B⟩ := srun_rel K n (g _ (ρ.le_ext l)) hrun hev.1
    refine ⟨m2, k1, ?_⟩
    unfold sendO at hs
    split at hs
    · rename_i hc hm hd
      rw [hc] at h3
      cases h3
      have gm := h2.mode
      rw [hm] at gm
      have gd := h2.defers
      rw [hd] at gd
      obtain ⟨hq, hs⟩ := cond_ok hs
      simp only [Bool.and_eq_true, Bool.not_eq_true'] at hq
      have hfn := beq_tt hq.1
      split at hs
      · rename_i fn hf
        split at hs
        · rename_i vs c hres

          split at hs
          case h_2 => cases hs
          rename_i es bs hov
          obtain ⟨hdis, hs'⟩ := cond_ok hs
          clear hs
          have hs := hs'
          clear hs'
          have hcH : Holds (ρ.ext l) c := by
            have : ev2 = asks c := by
              split at hs
              · cases hs; rfl
              · cases hs
              · cases hs; rfl
            have := hev.2
            rw [‹ev2 = asks c›] at this
            exact EvOk.asks.1 this
          obtain ⟨us, u1, u2⟩ := sresults_rel R h2.tm hres hcH
          obtain ⟨H0, x0, R0, s0⟩ := settleAll_rel (P := C.P) R
          obtain ⟨ko, ga⟩ := ownVals_rel R0 (u2.mono x0) hov
          have nd := blks_nodup R0 (distinctL_nodup hdis) ko
          refine ⟨by rw [h1]; rfl, by rw [h2.fn, hfn], gm.ret_iff, ?_, by rw [h2.deferred, hq.2], R.next, R.keep, R.none_, fn, us, _, hf, u1, ?_, nd, ?_⟩
          · generalize m2.fr.defers = md at gd; cases gd; rfl
          · split at hs
            · rename_i t v ht
              cases hs
              rw [ht] at ga ⊢
              generalize hF : List.flatMap (blkOf H0 (settleAll C.P z.h)) bs = F at ga ⊢
              cases ga with
              | cons g1 g2 =>
                cases g2
                refine ⟨_, rfl, ?_⟩
                rw [← hr, List.append_nil]
                exact g1
            · cases hs
            · rename_i ts es' hne1 hne2
              cases hs
              unfold ResO
              split
              · rename_i t ht
                first | exact (hne1 _ ht).elim | exact (hne2 _ ht).elim | exact (hne2 _ _ ht rfl).elim | exact (hne1 _ _ ht rfl).elim | exact (hne2 _ _ ht).elim | exact (hne1 _ _ ht).elim
              · exact ⟨_, by rw [← hr, listE_v], ga⟩
          · intro a ha
            obtain ⟨k, hk, hkb⟩ := List.mem_flatMap.1 ha
            obtain ⟨ok, e1, w1⟩ := ko k hk
            exact (R0.hasB e1 w1 (blkOf_has e1 hkb)).2
        · cases hs
      · cases hs
    · cases hs
  · cases e
/-- A contract with a result that is ours. -/
theorem FnO.of {xs : List V} (hb : sbegin C.P f = some s) (k : ComesO C f s ⟨[], [], xs⟩ r) : FnO C.P f xs r := by
  intro h S as_ fn hfn hS hno ga
  unfold sbegin at hb
  rw [hfn] at hb
  simp only at hb
  split at hb
  · rename_i vs hv
    simp only [Option.map_eq_some_iff] at hb
    obtain ⟨fr, he, hb⟩ := hb
    subst hb
    have lens := ga.lengths
    let H : Hid := { ν := fun _ => none, κ := fun n => match as_[n]? with | some a => a.cells | none => [], κb := fun _ _ => [], S, fp := fun _ => [] }
    have hargs : ∀ ρ', (⟨[], [], xs⟩ : Env).le ρ' → SDs C.P h H ρ' vs as_ := by
      intro ρ' hρ'
      obtain ⟨_, _, l, hl⟩ := hρ'
      refine sargs_rel (H := H) ga hv (fun i x hx => ?_) (fun i a ha => ?_)
      · rw [hl, Nat.zero_add]
        simp only
        rw [List.getElem?_append_left (List.getElem?_eq_some_iff.1 hx).1]; exact hx
      · simp only [H, Nat.zero_add, ha]
    obtain ⟨g, g1, _⟩ := senter_rel (hargs _ ⟨rfl, rfl, [], by simp⟩) he
    refine ⟨g, g1, fun callers => ?_⟩
    have start : ∀ ρ', (⟨[], [], xs⟩ : Env).le ρ' → MR C.P h S callers ρ' { fr, callers := [], h := { next := 0, ats := fn.params.size, nv := fn.params.size, t := .nil } } { fr := g, callers, h } := by
      intro ρ' hρ'
      obtain ⟨g', g1', g2⟩ := senter_rel (hargs ρ' hρ') he
      rw [g1] at g1'; cases g1'
      have hnil : ∀ b o, (({ next := 0, ats := fn.params.size, nv := fn.params.size, t := .nil } : SHeap).get b) = some o → False := by
        intro b o e
        have : (Tr.nil : Tr SObj).get b = some o := e
        rw [Tr.get_nil] at this; cases this
      refine ⟨H, [], rfl, g2, .nil, ⟨fun b o e => (hnil b o e).elim, fun b _ o _ _ _ _ e => (hnil b o e).elim, fun b o _ _ e => (hnil b o e).elim, hS, Nat.le_refl _, fun _ _ => rfl, fun _ _ => rfl, (fun _ _ _ e => by cases e), ?_, fun _ _ _ => rfl, hno, fun b o e => (hnil b o e).elim, ⟨fun b o e => (hnil b o e).elim, fun b o e => (hnil b o e).elim, fun b _ o _ _ e => (hnil b o e).elim, fun b o _ _ _ _ e => (hnil b o e).elim⟩⟩, fun a ha => .inl ha⟩
      intro n hn
      have hn : fn.params.size ≤ n := hn
      have : as_[n]? = none := List.getElem?_eq_none (by rw [lens.1]; simpa using hn)
      simp only [H, this]
    obtain ⟨m', k1, k2⟩ := k h S callers _ start
    obtain ⟨q1, q2, q3, q4, q5, q6, q7, q8, fn', us, F, q9, q10, q11, q12, q13⟩ := k2
    rw [hfn] at q9; cases q9
    obtain ⟨mf, mc, mh⟩ := m'
    simp only at q1 q2 q3 q4 q5 q6 q7 q8 q10 q11 q13
    subst q1
    exact ⟨mf, mh, us, F, q6, q7, q8, q11, q12, q13, q2, q3, q4, q5, q10, k1⟩
  · cases hb
end
end Go.Sym
/- A closed run as a contract. -/
namespace Go.Sym
open Go Go.Abs
open Go.RowKit (Below)
set_option linter.unusedVariables false
set_option linter.unusedSimpArgs false

theorem WRel.grow {μ : Mu} {I : Imm} {w0 w w' : World} {h : Heap} (W : WRel μ I w0 h w) (b : Below w.heap.size w w') : WRel μ I w0 h w' := by
  refine ⟨W.below.trans (b.mono W.below.size), W.live, fun c B o N e => ?_, fun c ob B o N e m => ?_, W.inj, fun B o v e => ?_⟩
  · obtain ⟨h1, h2, h3⟩ := W.mapped c B o N e
    exact ⟨h1, Nat.lt_of_lt_of_le h2 b.size, h3⟩
  · obtain ⟨obj, h1, h2⟩ := W.objs c ob B o N e m
    exact ⟨obj, by rw [b.block _ (W.mapped c B o N m).2.1]; exact h1, h2⟩
  · obtain ⟨h1, _, h3⟩ := W.imm B o v e
    refine ⟨?_, rfl, h3⟩
    have hlt : B < w.heap.size := by
      apply Decidable.byContradiction
      intro hq
      have hno : w.heap[B]? = none := Array.getElem?_eq_none (by omega)
      simp [World.cell?, hno] at h1
    have := b.cell (p := ⟨B, o, none⟩) hlt
    rw [this]; exact h1

/-- The end of a closed run: a temporary holds the result. -/
noncomputable def doneT (P : Program) (f : FuncId) (t : Tmp) (b : Bool) (m : AMach) : Bool :=
  match m.callers, m.fr.mode, m.fr.defers, m.fr.roundOf with
  | [], .returning, [], none => Nat.beq m.fr.fn f && !m.fr.deferred && (match m.fr.tm.get t with | some (.bool c) => c == b | _ => false)
  | _, _, _, _ => false

noncomputable def endF (f nt t : Nat) (b : Bool) : AFrame := { fn := f, nt, tm := Tr.nil.set t (.bool b), todo := [], defers := [], mode := .returning, deferred := false, roundOf := none }
theorem leads_closed {P : Program} {f : FuncId} {g : AFrame} {m : AMach} {t : Tmp} {b : Bool} (hg : enter P f [] false = some g) (h1 : Leads P ⟨g, [], ⟨0, .nil⟩⟩ m) (h2 : doneT P f t b m = true) (h : Heap) (callers : List AFrame) :
    Leads P ⟨g, callers, h⟩ ⟨endF f m.fr.nt t b, callers, h⟩ := by
  intro I w0 μ c cs tl w r
  obtain ⟨⟨lo, hlo, hF, hS⟩, hW⟩ := r
  simp only at hlo hF hS hW
  unfold enter at hg
  split at hg
  case h_2 => cases hg
  rename_i fn hfn
  split at hg
  case h_2 => cases hg
  rename_i body hb
  obtain ⟨_, hg⟩ := cond_ok hg
  cases hg
  -- the frame, alone
  have hcm : c.mode = .run ∧ TodoRel P μ I h true lo h.next [.code body] (enter.setAll .nil 0 []) c.todo c.tmps := by
    have := hF.st
    cases this with | run a b => exact ⟨a, b⟩
  have htd : c.todo = [.code body] := by
    have h := hcm.2
    generalize c.todo = ct at h
    generalize c.tmps = cm at h
    cases h with
    | plain a b =>
      cases a with
      | cons x y =>
        cases y
        cases x
        rfl
  have hround : c.roundOf = none := by
    have h := hF.round
    generalize c.roundOf = cr at h
    simp only at h
    cases h; rfl
  have hdef : c.defers = [] := by
    have h := hF.defers
    generalize c.defers = cd at h
    simp only at h
    cases h; rfl
  have r0 : MRel P (fun _ => none) I w ⟨{ fn := f, nt := fn.ntmps, tm := enter.setAll .nil 0 [], todo := [.code body], defers := [], mode := .run, deferred := false, roundOf := none }, [], ⟨0, .nil⟩⟩ c [] w := by
    refine ⟨⟨0, Nat.le_refl _, ⟨hF.fn, hF.has, hF.kind, ?_, ?_, hF.size, ?_⟩, .nil⟩, start_rel w fun B o v e => (hW.imm B o v e).1⟩
    · rw [hround]; exact .none
    · rw [hdef]; exact .nil
    · refine .run hcm.1 ?_
      rw [htd]
      exact .plain (.cons (.code _) .nil) (fun t v e => by rw [enter.setAll, Tr.get_nil] at e; cases e)
  obtain ⟨μ', c', cs', w', s, ⟨⟨lo', hlo', hF', hS'⟩, hW'⟩⟩ := h1 I w _ c [] (cs ++ tl) w r0
  unfold doneT at h2
  split at h2
  case h_2 => cases h2
  rename_i hc hm hd hro
  simp only [Bool.and_eq_true, Bool.not_eq_true'] at h2
  obtain ⟨⟨k1, k2⟩, k3⟩ := h2
  have k1 := beq_tt k1
  rw [hc] at hS'
  cases hS'
  refine ⟨μ, c', cs, w', by simpa using s, ⟨⟨lo, hlo, ⟨?_, ⟨fn, hfn⟩, ?_, ?_, ?_, hF'.size, ?_⟩, hS⟩, WRel.grow hW hW'.below⟩⟩
  · rw [hF'.fn, k1]; rfl
  · rw [hF'.kind, k2]; rfl
  · have h := hF'.round
    rw [hro] at h
    generalize c'.roundOf = cr at h
    cases h
    exact .none
  · have h := hF'.defers
    rw [hd] at h
    generalize c'.defers = cd at h
    cases h; exact .nil
  · have hst := hF'.st
    rw [hm] at hst
    cases hst with
    | ret a z =>
      refine .ret a ?_
      intro t' v e
      simp only [endF] at e
      rw [Tr.get_set, Tr.get_nil] at e
      split at e
      · rename_i ht
        cases e
        subst ht
        split at k3
        · rename_i c2 hq
          have hv := z _ _ hq
          have : c2 = b := by simpa using k3
          subst this
          generalize c'.tmps.getD t' undef = u at hv
          cases hv
          exact .bool _
        · cases k3
      · cases e
theorem fn_closed {P : Program} {f : FuncId} {g : AFrame} {m : AMach} {t : Tmp} {b : Bool} (hg : enter P f [] false = some g) (h1 : Leads P ⟨g, [], ⟨0, .nil⟩⟩ m) (h2 : doneT P f t b m = true)
    (hs : (match P.funcs[f]? with | some fn => (match fn.params.toList, fn.resultTypes.toList, fn.results.toList with | [], [rt], [.tmp t'] => Nat.beq t' t && decide (sizeT P rt = some 1) && (match P.underlying rt with | some .bool => true | _ => false) | _, _, _ => false) | none => false) = true) : Fn P f [] (.bool b) := by
  intro h S as_ fn hfn hS hno ga
  rw [hfn] at hs
  simp only at hs
  split at hs
  case h_2 => cases hs
  rename_i rt t' hp hr hres
  simp only [Bool.and_eq_true, decide_eq_true_eq] at hs
  obtain ⟨⟨e1, e2⟩, e3⟩ := hs
  have e1 := beq_tt e1
  subst e1
  rw [hp] at ga
  cases ga
  split at e3
  case h_2 => cases e3
  rename_i hu
  refine ⟨g, hg, fun callers => ⟨endF f m.fr.nt t' b, h, [.bool b], Nat.le_refl _, fun _ _ => rfl, hno, ?_, rfl, rfl, rfl, rfl, ?_, leads_closed hg h1 h2 h callers⟩⟩
  · rw [hr]
    exact ⟨_, rfl, [.bool b], ⟨e2, by rw [hu]; exact ⟨b, rfl, rfl⟩⟩, .inr ⟨by simp [isAggT, hu], rfl⟩⟩
  · rw [hres]
    have : tmGet (endF f m.fr.nt t' b).tm t' = .bool b := by
      simp only [endF, tmGet]
      rw [Tr.get_set]; simp
    simp [aresults, this]
end Go.Sym
/- What a claim's row asks, from a run of the abstract machine. -/
namespace Go.Abs
open Go.ChangeShapes Go.WideShapes
open Go.RowKit (Below)

end Go.Abs
/- From a law's contract to its row: the arguments. -/
namespace Go.Sym
open Go Go.Abs
open Go.RowKit (Below)
set_option linter.unusedVariables false
set_option linter.unusedSimpArgs false

/-- A value of a type: its numbers fit, its lists are not too long. -/
def WT (P : Program) : Nat → TypeId → V → Prop
  | 0, _, _ => False
  | d + 1, t, x => match P.underlying t with
    | some (.int k) => ∃ n, x = .int n ∧ k.min ≤ n ∧ n ≤ k.max
    | some .bool => ∃ b, x = .bool b
    | some .string => ∃ s, x = .str s
    | some (.slice et) => x = .nil ∨ ∃ l, x = .list l ∧ l.length ≤ Go.maxLen ∧ ∀ y ∈ l, WT P d et y
    | some (.struct fields) => ∃ xs, x = .list xs ∧ xs.length = fields.toList.length ∧ ∀ (i : Nat) f y, fields.toList[i]? = some f → xs[i]? = some y → WT P d f.type y
    | some (.array n et) => ∃ xs, x = .list xs ∧ xs.length = n ∧ ∀ y ∈ xs, WT P d et y
    | _ => False
inductive WTs (P : Program) : List TypeId → List V → Prop
  | nil : WTs P [] []
  | cons {t : TypeId} {x : V} {ts : List TypeId} {xs : List V} : WT P deep t x → WTs P ts xs → WTs P (t :: ts) (x :: xs)
def tyOk (P : Program) : Nat → TypeId → Bool
  | 0, _ => false
  | d + 1, t => match sizeT P t with
    | none => false
    | some n => match P.underlying t with
      | some (.int _) | some .bool | some .string => Nat.beq n 1
      | some (.slice et) => Nat.beq n 1 && (match sizeT P et with | some (_ + 1) => true | _ => false) && tyOk P d et
      | some (.struct fields) => decide (tight P fields.toList 0 = some n) && fields.toList.all fun f => tyOk P d f.type
      | some (.array m et) => match sizeT P et with
        | some s => Nat.beq n (m * s) && tyOk P d et
        | none => false
      | _ => false

theorem mapM_range' {α : Type} {f : Nat → Option α} : ∀ {n j : Nat} {l : List α}, (List.range' j n).mapM f = some l → l.length = n ∧ ∀ i x, l[i]? = some x → f (j + i) = some x
  | 0, j, l, e => by simp at e; subst e; exact ⟨rfl, fun i x h => by simp at h⟩
  | n + 1, j, l, e => by
    rw [List.range'_succ, List.mapM_cons] at e
    simp only [Option.bind_eq_bind, Option.bind_eq_some_iff, Option.pure_def, Option.some.injEq] at e
    obtain ⟨a, h1, r, h2, rfl⟩ := e
    obtain ⟨k1, k2⟩ := mapM_range' h2
    refine ⟨by simp [k1], fun i x hx => ?_⟩
    cases i with
    | zero => simp at hx; subst hx; exact h1
    | succ i => rw [show j + (i + 1) = j + 1 + i from by omega]; exact k2 i x (by simpa using hx)
theorem mapM_range {α : Type} {f : Nat → Option α} {n : Nat} {l : List α} (e : (List.range n).mapM f = some l) : l.length = n ∧ ∀ i x, l[i]? = some x → f i = some x := by
  rw [List.range_eq_range'] at e
  obtain ⟨h1, h2⟩ := mapM_range' e
  exact ⟨h1, fun i x hx => by simpa using h2 i x hx⟩

section
variable {H : Type} {enc : TypeId × Value → H} {P : Program} {w : World} {sp : Nat → Bool} {held : Bool}

/-- The memory of a world. -/
def memOf (w : World) : Imm := fun B o => w.cell? ⟨B, o, none⟩
def noB : Nat → Prop := fun _ => False
def noMu : Mu := fun _ => none
noncomputable def noH : Heap := ⟨0, .nil⟩

theorem cell_spot {a : Addr} {v : Value} (e : w.cell? a = some v) : a = ⟨a.block, a.off, none⟩ := by
  obtain ⟨b, o, s⟩ := a
  cases s with
  | none => rfl
  | some s => unfold World.cell? at e; split at e <;> simp at e
theorem add_add (b o n : Nat) : (Addr.mk b o none).add n = ⟨b, o + n, none⟩ := Abs.add_none b o n
theorem VRels.icells {acs : List AV} {cs : List Value} {I : Imm} {B : Nat} : ∀ {o : Nat}, VRels noMu I acs cs → (∀ k v, cs[k]? = some v → I B (o + k) = some v) → ICells noMu I acs B o := by
  induction acs generalizing cs with
  | nil => intro o g h; exact .nil
  | cons a acs ih =>
    intro o g h
    cases g with
    | cons g1 g2 =>
      refine .cons (h 0 _ rfl) g1 (ih g2 fun k v hk => ?_)
      rw [show o + 1 + k = o + (k + 1) from by omega]
      exact h (k + 1) v (by simpa using hk)
theorem ICells.append {I : Imm} {B : Nat} {x y : List AV} : ∀ {o : Nat}, ICells noMu I x B o → ICells noMu I y B (o + x.length) → ICells noMu I (x ++ y) B o := by
  induction x with
  | nil => intro o _ h; simpa using h
  | cons a x ih =>
    intro o g h
    cases g with
    | cons g0 g1 g2 => exact .cons g0 g1 (ih g2 (by rw [show o + 1 + x.length = o + (a :: x).length from by simp; omega]; exact h))

theorem trod_rel : ∀ {d fuel : Nat} {t : TypeId} {cs : List Value} {dd : DataW H} {ps : List MemPlace}, tyOk P d t = true → DataW.trod enc P w 0 (fun _ => true) held fuel t cs = some (dd, ps) → sizeT P t = some cs.length →
    ∃ x acs, WT P d t x ∧ VRels noMu (memOf w) acs cs ∧ PV P noH noB d t x acs
  | 0, _, _, _, _, _, e, _, _ => by simp [tyOk] at e
  | d + 1, 0, _, _, _, _, _, e, _ => by simp [DataW.trod] at e
  | d + 1, fuel + 1, t, cs, dd, ps, ht, e, hsz => by
    have ih := @trod_rel d
    unfold tyOk at ht
    rw [hsz] at ht
    simp only at ht
    unfold DataW.trod at e
    cases hu : P.underlying t with
    | none => rw [hu] at ht; cases ht
    | some td =>
    rw [hu] at ht e
    have mkPV : ∀ {x : V} {acs : List AV}, acs.length = cs.length → (match some td with
        | some (.int k) => ∃ n, x = .int n ∧ acs = [.int k n]
        | some .bool => ∃ b, x = .bool b ∧ acs = [.bool b]
        | some .string => ∃ s, x = .str s ∧ acs = [.str s]
        | some (.slice et) => ∃ av sz, acs = [av] ∧ sizeT P et = some sz ∧ 0 < sz ∧ PSl noH noB sz (PV P noH noB d et) x av
        | some (.struct fields) => ∃ xs, x = .list xs ∧ PFl P (PV P noH noB d) fields.toList 0 xs acs
        | some (.array n et) => ∃ xs sz, x = .list xs ∧ xs.length = n ∧ sizeT P et = some sz ∧ PRow sz (PV P noH noB d et) xs acs
        | _ => False) → PV P noH noB (d + 1) t x acs := by
      intro x acs hl h
      refine ⟨by rw [hsz, hl], ?_⟩
      rw [hu]
      exact h
    have wt : ∀ {x : V}, (match some td with
        | some (.int k) => ∃ n, x = .int n ∧ k.min ≤ n ∧ n ≤ k.max
        | some .bool => ∃ b, x = .bool b
        | some .string => ∃ s, x = .str s
        | some (.slice et) => x = .nil ∨ ∃ l, x = .list l ∧ l.length ≤ Go.maxLen ∧ ∀ y ∈ l, WT P d et y
        | some (.struct fields) => ∃ xs, x = .list xs ∧ xs.length = fields.toList.length ∧ ∀ (i : Nat) f y, fields.toList[i]? = some f → xs[i]? = some y → WT P d f.type y
        | some (.array n et) => ∃ xs, x = .list xs ∧ xs.length = n ∧ ∀ y ∈ xs, WT P d et y
        | _ => False) → WT P (d + 1) t x := by
      intro x h
      unfold WT
      rw [hu]
      exact h
    cases td <;> simp only at ht <;> first | (cases ht; done) | skip
    case bool =>
      obtain ⟨v, rfl⟩ : ∃ v, cs = [v] := List.length_eq_one_iff.1 (beq_tt ht)
      cases v <;> simp at e
      rename_i b
      exact ⟨.bool b, [.bool b], wt ⟨b, rfl⟩, .cons (.bool b) .nil, mkPV rfl ⟨b, rfl, rfl⟩⟩
    case int k =>
      obtain ⟨v, rfl⟩ : ∃ v, cs = [v] := List.length_eq_one_iff.1 (beq_tt ht)
      cases v <;> simp at e
      rename_i k' n
      obtain ⟨⟨rfl, hw⟩, _⟩ := e
      simp only [Lit.wf, Bool.and_eq_true, decide_eq_true_eq] at hw
      exact ⟨.int n, [.int k' n], wt ⟨n, rfl, hw.1, hw.2⟩, .cons (.int k' n) .nil, mkPV rfl ⟨n, rfl, rfl⟩⟩
    case string =>
      obtain ⟨v, rfl⟩ : ∃ v, cs = [v] := List.length_eq_one_iff.1 (beq_tt ht)
      cases v <;> simp at e
      rename_i s
      exact ⟨.str s, [.str s], wt ⟨s, rfl⟩, .cons (.str s) .nil, mkPV rfl ⟨s, rfl, rfl⟩⟩
    case slice et =>
      simp only [Bool.and_eq_true] at ht
      obtain ⟨⟨h1, h2⟩, h3⟩ := ht
      obtain ⟨v, rfl⟩ : ∃ v, cs = [v] := List.length_eq_one_iff.1 (beq_tt h1)
      obtain ⟨sz, hs, hpos⟩ : ∃ sz, sizeT P et = some sz ∧ 0 < sz := by
        split at h2
        · rename_i q hq; exact ⟨_, hq, by omega⟩
        · cases h2
      have hco : P.cellsOf et = sz := by simp [Program.cellsOf]; simp [sizeT] at hs; obtain ⟨i, hi, rfl⟩ := hs; simp [hi]
      cases v <;> simp at e
      rename_i a len cap
      cases a with
      | none =>
        cases len with
        | zero =>
          cases cap with
          | zero => exact ⟨.nil, [.nils], wt (.inl rfl), .cons .nils .nil, mkPV rfl ⟨_, sz, rfl, hs, hpos, .inl ⟨rfl, rfl⟩⟩⟩
          | succ c => simp at e
        | succ l => simp at e
      | some a =>
        simp only [Option.ite_none_right_eq_some] at e
        obtain ⟨⟨hlc, hcm⟩, e⟩ := e
        simp only [Option.bind_eq_some_iff, Option.map_eq_some_iff] at e
        obtain ⟨els, e1, rest, e2, e3⟩ := e
        rw [hco] at e1 e2
        obtain ⟨k1, k2⟩ := mapM_range e1
        obtain ⟨r1, r2⟩ := mapM_range e2
        -- an element that is there
        have hadd : ∀ n, (a.add n).block = a.block ∧ (a.add n).off = a.off + n := by
          intro n; unfold Addr.add; split
          · rename_i h; subst h; exact ⟨rfl, rfl⟩
          · exact ⟨rfl, rfl⟩
        have elem : ∀ (i : Nat) y, (w.cells? 0 (a.add (i * sz)) sz).bind (DataW.trod enc P w 0 (fun _ => true) held fuel et) = some y → a.add (i * sz) = ⟨a.block, a.off + i * sz, none⟩ ∧ ∃ x acs, WT P d et x ∧ acs.length = sz ∧ ICells noMu (memOf w) acs a.block (a.off + i * sz) ∧ PV P noH noB d et x acs := by
          intro i y hy
          simp only [Option.bind_eq_some_iff] at hy
          obtain ⟨ecs, c1, c2⟩ := hy
          simp only [World.cells?, Nat.zero_le, if_true] at c1
          obtain ⟨m1, m2⟩ := mapM_range c1
          have hsp : a.add (i * sz) = ⟨a.block, a.off + i * sz, none⟩ := by
            cases hec : ecs with
            | nil => rw [hec] at m1; simp at m1; omega
            | cons v0 ecs' =>
              have h0 := m2 0 v0 (by rw [hec]; rfl)
              have h0' : w.cell? (a.add (i * sz)) = some v0 := by
                have : (a.add (i * sz)).add 0 = a.add (i * sz) := by unfold Addr.add; simp
                rwa [this] at h0
              have := cell_spot h0'
              rw [(hadd _).1, (hadd _).2] at this
              exact this
          obtain ⟨x, acs, p1, p2, p3⟩ := ih (dd := y.1) (ps := y.2) h3 c2 (by rw [hs, m1])
          refine ⟨hsp, x, acs, p1, by rw [p2.length, m1], VRels.icells p2 fun k v hk => ?_, p3⟩
          have := m2 k v hk
          rw [hsp, add_add] at this
          exact this
        have rows : ∀ (l : List (DataW H × List MemPlace)) (j : Nat), (∀ i y, l[i]? = some y → (w.cells? 0 (a.add ((j + i) * sz)) sz).bind (DataW.trod enc P w 0 (fun _ => true) held fuel et) = some y) →
            ∃ xs acs, xs.length = l.length ∧ (∀ y ∈ xs, WT P d et y) ∧ PRow sz (PV P noH noB d et) xs acs ∧ ICells noMu (memOf w) acs a.block (a.off + j * sz) := by
          intro l
          induction l with
          | nil => intro j _; exact ⟨[], [], rfl, by simp, rfl, .nil⟩
          | cons y l ihl =>
            intro j hl
            obtain ⟨_, x, acs, p1, p2, p3, p4⟩ := elem j y (hl 0 y rfl)
            obtain ⟨xs, acs', q1, q2, q3, q4⟩ := ihl (j + 1) fun i z hz => by
              rw [show j + 1 + i = j + (i + 1) from by omega]; exact hl (i + 1) z (by simpa using hz)
            refine ⟨x :: xs, acs ++ acs', by simp [q1], ?_, ⟨acs, acs', rfl, p2, p4, q3⟩, ICells.append p3 ?_⟩
            · intro z hz
              rcases List.mem_cons.1 hz with rfl | hz
              · exact p1
              · exact q2 z hz
            · rw [p2, show a.off + j * sz + sz = a.off + (j + 1) * sz from by rw [Nat.succ_mul]; omega]; exact q4
        obtain ⟨xs, acs, q1, q2, q3, q4⟩ := rows els 0 fun i y hy => by rw [Nat.zero_add]; exact k2 i y hy
        rw [Nat.zero_mul, Nat.add_zero] at q4
        have hxl : xs.length = len := by rw [q1, k1]
        refine ⟨.list xs, [.vslice acs len sz], wt (.inr ⟨xs, rfl, by omega, q2⟩), .cons ?_ .nil, mkPV rfl ⟨_, sz, rfl, hs, hpos, .inr ⟨xs, rfl, .inr ⟨acs, [], by rw [hxl], by simpa using q3⟩⟩⟩⟩
        have spot : 0 < cap → a = ⟨a.block, a.off, none⟩ := by
          intro hc
          have key : ∀ y, (w.cells? 0 (a.add (0 * sz)) sz).bind (DataW.trod enc P w 0 (fun _ => true) held fuel et) = some y → a = ⟨a.block, a.off, none⟩ := by
            intro y hy
            have := (elem 0 y hy).1
            rw [Nat.zero_mul] at this
            have h0 : a.add 0 = a := by unfold Addr.add; simp
            rw [h0] at this
            simpa using this
          cases hels : els with
          | cons y els' => exact key y (k2 0 y (by rw [hels]; rfl))
          | nil =>
            rw [hels] at k1
            have hl0 : len = 0 := by simpa using k1.symm
            subst hl0
            cases hrest : rest with
            | nil => rw [hrest] at r1; simp at r1; omega
            | cons y rest' => exact key y (by have := r2 0 y (by rw [hrest]; rfl); simpa using this)
        by_cases hc : cap = 0
        · subst hc
          have : len = 0 := by omega
          subst this
          exact .vslice0
        · have hsp := spot (by omega)
          rw [hsp]
          exact .vslice q4 hlc
    case struct fields =>
      simp only [Bool.and_eq_true, decide_eq_true_eq, List.all_eq_true] at ht
      obtain ⟨h1, h2⟩ := ht
      have hco : P.cellsOf t = cs.length := by simp [Program.cellsOf]; simp [sizeT] at hsz; obtain ⟨i, hi, q⟩ := hsz; simp [hi, q]
      have e' : (if cs.length = P.cellsOf t then (fields.toList.mapM fun f => DataW.trod enc P w 0 (fun _ => true) held fuel f.type ((cs.drop f.offset).take (P.cellsOf f.type))).map (fun xs => ((DataW.agg (xs.map (·.1)) : DataW H), xs.flatMap (·.2))) else none) = some (dd, ps) := by
        cases cs with
        | nil => exact e
        | cons c cs => exact e
      rw [if_pos hco.symm] at e'
      simp only [Option.map_eq_some_iff] at e'
      obtain ⟨l, e1, _⟩ := e'
      have key : ∀ (fs : List Field) (pos : Nat) (l : List (DataW H × List MemPlace)), (∀ f ∈ fs, tyOk P d f.type = true) → tight P fs pos = some cs.length → (fs.mapM fun f => DataW.trod enc P w 0 (fun _ => true) held fuel f.type ((cs.drop f.offset).take (P.cellsOf f.type))) = some l →
          ∃ xs acs, xs.length = fs.length ∧ (∀ (i : Nat) f y, fs[i]? = some f → xs[i]? = some y → WT P d f.type y) ∧ VRels noMu (memOf w) acs (cs.drop pos) ∧ PFl P (PV P noH noB d) fs pos xs acs ∧ pos ≤ cs.length := by
        intro fs
        induction fs with
        | nil =>
          intro pos l _ hp _
          simp [tight] at hp
          subst hp
          exact ⟨[], [], rfl, by simp, by rw [List.drop_length]; exact .nil, ⟨rfl, rfl⟩, Nat.le_refl _⟩
        | cons f fs ihf =>
          intro pos l hf hp hl
          unfold tight at hp
          split at hp
          · rename_i s hs
            obtain ⟨ho, hp⟩ := cond_ok hp
            have ho := beq_tt ho
            rw [List.mapM_cons] at hl
            simp only [Option.bind_eq_bind, Option.bind_eq_some_iff, Option.pure_def, Option.some.injEq] at hl
            obtain ⟨y, y1, r, y2, _⟩ := hl
            obtain ⟨xs, acs, q1, q2, q3, q4, q5⟩ := ihf (pos + s) r (fun g hg => hf g (by simp [hg])) hp y2
            have hcf : P.cellsOf f.type = s := by simp [Program.cellsOf]; simp [sizeT] at hs; obtain ⟨i, hi, q⟩ := hs; simp [hi, q]
            rw [hcf, ho] at y1
            have hlen : ((cs.drop pos).take s).length = s := by simp; omega
            obtain ⟨x, bcs, p1, p2, p3⟩ := ih (dd := y.1) (ps := y.2) (hf f (by simp)) y1 (by rw [hs, hlen])
            have hb : bcs.length = s := by rw [p2.length, hlen]
            refine ⟨x :: xs, bcs ++ acs, by simp [q1], ?_, ?_, ⟨x, xs, bcs, acs, rfl, rfl, ho, p3, by rw [hb]; exact q4⟩, by omega⟩
            · intro i g z hg hz
              cases i with
              | zero => simp at hg hz; subst hg; subst hz; exact p1
              | succ i => exact q2 i g z (by simpa using hg) (by simpa using hz)
            · have := p2.append q3
              rw [← List.drop_drop, List.take_append_drop] at this
              exact this
          · cases hp
      obtain ⟨xs, acs, q1, q2, q3, q4, _⟩ := key fields.toList 0 l h2 h1 e1
      rw [List.drop_zero] at q3
      exact ⟨.list xs, acs, wt ⟨xs, rfl, q1, q2⟩, q3, mkPV q3.length ⟨xs, rfl, q4⟩⟩
    case array n et =>
      split at ht
      · rename_i s hs
        simp only [Bool.and_eq_true] at ht
        obtain ⟨h1, h2⟩ := ht
        have h1 := beq_tt h1
        have hco : P.cellsOf t = cs.length := by simp [Program.cellsOf]; simp [sizeT] at hsz; obtain ⟨i, hi, q⟩ := hsz; simp [hi, q]
        have hce : P.cellsOf et = s := by simp [Program.cellsOf]; simp [sizeT] at hs; obtain ⟨i, hi, q⟩ := hs; simp [hi, q]
        have e' : (if cs.length = P.cellsOf t then ((List.range n).mapM fun i => DataW.trod enc P w 0 (fun _ => true) held fuel et ((cs.drop (i * P.cellsOf et)).take (P.cellsOf et))).map (fun xs => ((DataW.agg (xs.map (·.1)) : DataW H), xs.flatMap (·.2))) else none) = some (dd, ps) := by
          cases cs with
          | nil => exact e
          | cons c cs => exact e
        rw [if_pos hco.symm, hce] at e'
        simp only [Option.map_eq_some_iff] at e'
        obtain ⟨l, e1, _⟩ := e'
        obtain ⟨k1, k2⟩ := mapM_range e1
        have key : ∀ (m j : Nat), j + m = n → ∃ xs acs, xs.length = m ∧ (∀ y ∈ xs, WT P d et y) ∧ VRels noMu (memOf w) acs (cs.drop (j * s)) ∧ PRow s (PV P noH noB d et) xs acs := by
          intro m
          induction m with
          | zero =>
            intro j hj
            have : j = n := by omega
            subst this
            exact ⟨[], [], rfl, by simp, by rw [List.drop_eq_nil_of_le (by omega)]; exact .nil, rfl⟩
          | succ m ihm =>
            intro j hj
            obtain ⟨xs, acs, q1, q2, q3, q4⟩ := ihm (j + 1) (by omega)
            have hjl : j < l.length := by omega
            have y1 := k2 j l[j] (by simp [hjl])
            have hle : (j + 1) * s ≤ n * s := Nat.mul_le_mul_right _ (by omega)
            have hlen : ((cs.drop (j * s)).take s).length = s := by
              rw [Nat.succ_mul] at hle
              simp; omega
            obtain ⟨x, bcs, p1, p2, p3⟩ := ih (dd := l[j].1) (ps := l[j].2) h2 y1 (by rw [hs, hlen])
            refine ⟨x :: xs, bcs ++ acs, by simp [q1], ?_, ?_, ⟨bcs, acs, rfl, by rw [p2.length, hlen], p3, q4⟩⟩
            · intro z hz
              rcases List.mem_cons.1 hz with rfl | hz
              · exact p1
              · exact q2 z hz
            · have := p2.append q3
              rw [Nat.succ_mul, ← List.drop_drop, List.take_append_drop] at this
              exact this
        obtain ⟨xs, acs, q1, q2, q3, q4⟩ := key n 0 (by omega)
        rw [Nat.zero_mul, List.drop_zero] at q3
        exact ⟨.list xs, acs, wt ⟨xs, rfl, q1, q2⟩, q3, mkPV q3.length ⟨xs, s, rfl, q1, hs, q4⟩⟩
      · cases ht

theorem arg_rel {t : TypeId} {v : Value} {dd : DataW H} {ps : List MemPlace} (ht : tyOk P deep t = true) (hv : Value.okWide P w .any 0 t v) (e : DataW.Trod enc P w 0 (fun _ => true) held t v dd ps) :
    ∃ x a, WT P deep t x ∧ VRel noMu (memOf w) a v ∧ PVal P noH noB t x a := by
  obtain ⟨fuel, e⟩ := e
  have hag : (isAggT P t = some true ∧ ∃ cs, v = .agg cs ∧ cs.size = P.cellsOf t) ∨ (isAggT P t = some false ∧ v.cells.toList = [v] ∧ sizeT P t = some 1) := by
    unfold tyOk deep at ht
    simp only at ht
    cases hs : sizeT P t with
    | none => rw [hs] at ht; cases ht
    | some n =>
      rw [hs] at ht
      simp only at ht
      cases hu : P.underlying t with
      | none => rw [hu] at ht; cases ht
      | some td =>
        rw [hu] at ht
        cases td <;> simp only at ht <;> first | (cases ht; done) | skip
        case bool =>
          have := beq_tt ht; subst this
          obtain ⟨b, rfl⟩ := Go.WideShapes.okWide_bool hu hv
          exact .inr ⟨by simp [isAggT, hu], rfl, rfl⟩
        case int k =>
          have := beq_tt ht; subst this
          obtain ⟨b, rfl⟩ := Go.WideShapes.okWide_int hu hv
          exact .inr ⟨by simp [isAggT, hu], rfl, rfl⟩
        case string =>
          have := beq_tt ht; subst this
          obtain ⟨b, rfl⟩ := Go.WideShapes.okWide_string hu hv
          exact .inr ⟨by simp [isAggT, hu], rfl, rfl⟩
        case slice et =>
          simp only [Bool.and_eq_true] at ht
          have := beq_tt ht.1.1; subst this
          obtain ⟨a, l, c, rfl⟩ := Go.WideShapes.okWide_slice hu hv
          exact .inr ⟨by simp [isAggT, hu], rfl, rfl⟩
        case struct fields =>
          obtain ⟨cs, h1, h2⟩ := Go.WideShapes.okWide_struct hu hv
          exact .inl ⟨by simp [isAggT, hu], cs, h1, h2⟩
        case array m et =>
          have hv' := hv
          unfold Value.okWide at hv'
          rw [hu] at hv'
          obtain ⟨cs, h1, h2, _⟩ := hv'
          exact .inl ⟨by simp [isAggT, hu], cs, h1, h2⟩
  rcases hag with ⟨h1, cs, rfl, h2⟩ | ⟨h1, h2, h3⟩
  · have hsz : sizeT P t = some cs.toList.length := by
      cases hs : sizeT P t with
      | none => unfold tyOk deep at ht; simp only at ht; rw [hs] at ht; cases ht
      | some n =>
        simp [sizeT] at hs
        obtain ⟨i, hi, q⟩ := hs
        simp [Program.cellsOf, hi, q] at h2
        simp [h2]
    obtain ⟨x, acs, p1, p2, p3⟩ := trod_rel ht e hsz
    exact ⟨x, .agg acs, p1, .agg p2, acs, p3, .inl ⟨h1, rfl⟩⟩
  · rw [h2] at e
    obtain ⟨x, acs, p1, p2, p3⟩ := trod_rel ht e (by rw [h3]; rfl)
    cases p2 with
    | cons g1 g2 =>
      cases g2
      exact ⟨x, _, p1, g1, _, p3, .inr ⟨h1, rfl⟩⟩
theorem args_rel : ∀ {ts : List TypeId} {vs : List Value} {ds : List (DataW H)} {ps : List MemPlace}, ts.all (tyOk P deep) = true → (∀ (j : Nat) t v, ts[j]? = some t → vs[j]? = some v → Value.okWide P w .any 0 t v) → DataW.TrodAll enc P w 0 (fun _ => true) held ts vs ds ps →
    ∃ xs as_, WTs P ts xs ∧ VRels noMu (memOf w) as_ vs ∧ ArgsR P noH noB ts xs as_
  | [], [], [], ps, _, _, _ => ⟨[], [], .nil, .nil, .nil⟩
  | t :: ts, v :: vs, d :: ds, ps, ht, hv, e => by
    obtain ⟨p, q, e1, e2, _⟩ := e
    simp only [List.all_cons, Bool.and_eq_true] at ht
    obtain ⟨x, a, h1, h2, h3⟩ := arg_rel ht.1 (hv 0 t v rfl rfl) e1
    obtain ⟨xs, as_, k1, k2, k3⟩ := args_rel ht.2 (fun j t v ht hv' => hv (j + 1) t v (by simpa using ht) (by simpa using hv')) e2
    exact ⟨x :: xs, a :: as_, .cons h1 k1, .cons h2 k2, .cons h3 k3⟩
  | [], _ :: _, _, _, _, _, e => e.elim
  | [], [], _ :: _, _, _, _, e => e.elim
  | _ :: _, [], _, _, _, _, e => e.elim
  | _ :: _, _ :: _, [], _, _, _, e => e.elim

/-- A law that returns true for all values is the model's call that does, in every world. -/
theorem law_calls {f : FuncId} {fn : Func} (hfn : P.funcs[f]? = some fn) (hF : ∀ xs, WTs P fn.params.toList xs → Fn P f xs (.bool true)) (ht : fn.params.toList.all (tyOk P deep) = true)
    (hr : (match fn.resultTypes.toList with | [rt] => (match P.underlying rt with | some .bool => true | _ => false) | _ => false) = true)
    {args : Array Value} {ds : List (DataW H)} {ps : List MemPlace} (hval : ∀ (j : Nat) t v, fn.params[j]? = some t → args[j]? = some v → Value.okWide P w .any 0 t v) (hA : DataW.TrodAll enc P w 0 (fun _ => true) held fn.params.toList args.toList ds ps) :
    Calls P f args w fun e w' => e = .returned (.bool true) ∧ Below w.heap.size w w' := by
  obtain ⟨xs, as_, h1, h2, h3⟩ := args_rel ht (fun j t v h k => hval j t v (by simpa using h) (by simpa using k)) hA
  obtain ⟨g, g1, hg⟩ := hF xs h1 noH noB as_ fn hfn (fun c hc => hc.elim) (fun c hc => by simp [noH, Heap.get, Tr.get_nil]) h3
  obtain ⟨gE, h', us, k1, k2, k3, k4, k5, k6, k7, k8, k9, k10⟩ := hg []
  have hu : us = [.bool true] := by
    split at hr
    · rename_i rt hrt
      rw [hrt] at k4
      obtain ⟨u, rfl, cs, p1, p2⟩ := k4
      split at hr
      · rename_i hu
        obtain ⟨_, p1⟩ := p1
        rw [hu] at p1
        obtain ⟨b, q1, q2⟩ := p1
        cases q1
        subst q2
        rcases p2 with ⟨p2, _⟩ | ⟨_, p2⟩
        · simp [isAggT, hu] at p2
        · simp at p2; rw [← p2]
      · cases hr
    · cases hr
  subst hu
  have hd : done P f ⟨gE, [], h'⟩ = some (.bool true) := by
    unfold done
    simp only [k6, k7, k5, k8, hfn, k9]
    simp
  refine (calls_of_leads (I := memOf w) (args := as_) (m0 := ⟨g, [], noH⟩) (by simp [begin_, g1, noH]) k10 hd w (fun B o v e => e) h2).mono fun e w' ⟨μ, u, he, hu, hb⟩ => ?_
  subst he
  cases hu
  exact ⟨rfl, hb⟩
end
end Go.Sym
/- Numbers as lists of digits to the base 10000. -/
namespace Go.Sym
set_option linter.unusedVariables false

def val : List Nat → Nat
  | [] => 0
  | d :: l => d + 10000 * val l
def dgF : Nat → Nat → List Nat
  | 0, _ => []
  | f + 1, n => if n = 0 then [] else n % 10000 :: dgF f (n / 10000)
def dg (n : Nat) : List Nat := dgF n n
def Ok (l : List Nat) : Prop := ∀ d ∈ l, d < 10000
theorem dgF_more : ∀ (f g n : Nat), n ≤ f → n ≤ g → dgF f n = dgF g n
  | 0, g, n, h, _ => by
    have : n = 0 := by omega
    subst this
    cases g <;> simp [dgF]
  | f + 1, 0, n, _, h => by
    have : n = 0 := by omega
    subst this; simp [dgF]
  | f + 1, g + 1, n, h1, h2 => by
    unfold dgF
    by_cases h0 : n = 0
    · simp [h0]
    · rw [if_neg h0, if_neg h0, dgF_more f g (n / 10000) (by omega) (by omega)]
theorem dg_zero : dg 0 = [] := rfl
theorem dg_pos {n : Nat} (h : n ≠ 0) : dg n = n % 10000 :: dg (n / 10000) := by
  unfold dg
  obtain ⟨m, rfl⟩ : ∃ m, n = m + 1 := ⟨n - 1, by omega⟩
  conv => lhs; unfold dgF
  rw [if_neg h, dgF_more m ((m + 1) / 10000) _ (by omega) (by omega)]
theorem val_dg (n : Nat) : val (dg n) = n := by
  induction n using Nat.strongRecOn with
  | _ n ih =>
    by_cases h : n = 0
    · subst h; rfl
    · rw [dg_pos h]
      simp only [val, ih (n / 10000) (by omega)]
      omega
theorem ok_dg (n : Nat) : Ok (dg n) := by
  induction n using Nat.strongRecOn with
  | _ n ih =>
    by_cases h : n = 0
    · subst h; intro d hd; simp [dg_zero] at hd
    · rw [dg_pos h]
      intro d hd
      rcases List.mem_cons.1 hd with rfl | hd
      · omega
      · exact ih (n / 10000) (by omega) d hd
theorem dg_val : ∀ (l : List Nat), Ok l → (∀ h : l ≠ [], l.getLast h ≠ 0) → dg (val l) = l
  | [], _, _ => rfl
  | d :: l, ho, hl => by
    have hd : d < 10000 := ho d (by simp)
    have ho' : Ok l := fun x hx => ho x (by simp [hx])
    by_cases hn : l = []
    · subst hn
      have : d ≠ 0 := hl (by simp)
      rw [dg_pos (by simp [val]; omega)]
      simp only [val]
      rw [show (d + 10000 * 0) % 10000 = d from by omega, show (d + 10000 * 0) / 10000 = 0 from by omega]
      rfl
    · have ih := dg_val l ho' (fun h => by have := hl (by simp); rwa [List.getLast_cons hn] at this)
      have hv : val l ≠ 0 := by
        intro h0
        rw [h0] at ih
        exact hn ih.symm
      rw [dg_pos (by simp only [val]; omega)]
      simp only [val]
      rw [show (d + 10000 * val l) % 10000 = d from by omega, show (d + 10000 * val l) / 10000 = val l from by omega, ih]
def pw (i : Nat) : Nat := 10000 ^ i
theorem pw_zero : pw 0 = 1 := rfl
theorem pw_succ (i : Nat) : pw (i + 1) = 10000 * pw i := by unfold pw; rw [Nat.pow_succ, Nat.mul_comm]
theorem pw_add (i j : Nat) : pw (i + j) = pw i * pw j := by unfold pw; rw [Nat.pow_add]
theorem pw_pos (i : Nat) : 0 < pw i := Nat.pow_pos (by omega)
theorem div_pw (m i : Nat) : m / pw (i + 1) = m / pw i / 10000 := by rw [Nat.div_div_eq_div_mul, pw_succ, Nat.mul_comm]
theorem val_append (a b : List Nat) : val (a ++ b) = val a + pw a.length * val b := by
  induction a with
  | nil => simp [val, pw_zero]
  | cons d a ih => simp only [List.cons_append, val, ih, List.length_cons, pw_succ]; rw [Nat.mul_add, ← Nat.mul_assoc]; omega
theorem val_lt : ∀ {l : List Nat}, Ok l → val l < pw l.length
  | [], _ => by simp [val, pw_zero]
  | d :: l, h => by
    have := val_lt (l := l) (fun x hx => h x (by simp [hx]))
    have hd := h d (by simp)
    simp only [val, List.length_cons, pw_succ]
    omega
theorem dg_len {n k : Nat} (h : n < pw k) : (dg n).length ≤ k := by
  induction k generalizing n with
  | zero => have : n = 0 := by rw [pw_zero] at h; omega
            subst this; simp [dg_zero]
  | succ k ih =>
    by_cases h0 : n = 0
    · subst h0; simp [dg_zero]
    · rw [dg_pos h0]
      have := ih (n := n / 10000) (by rw [pw_succ] at h; omega)
      simp; omega

/-- A slice of digits. -/
def Ints (a : V) (l : List Nat) : Prop := a.els = l.map fun d => V.int (Int.ofNat d)
theorem Ints.len {a : V} {l : List Nat} (h : Ints a l) : a.len = l.length := by unfold Ints at h; simp [V.len, h]
theorem Ints.get {a : V} {l : List Nat} (h : Ints a l) {i d : Nat} (hd : l[i]? = some d) : (a.get (i : Int)).toI = d := by
  unfold Ints at h; simp [V.get, h, hd, V.toI]
theorem Ints.snoc {a : V} {l : List Nat} (h : Ints a l) (d : Nat) : Ints (a.snoc (.int d)) (l ++ [d]) := by
  unfold Ints at *; simp [V.snoc, h, show ∀ l, (V.list l).els = l from fun _ => rfl]
theorem Ints.set {a : V} {l : List Nat} (h : Ints a l) (i d : Nat) : Ints (a.set (i : Int) (.int d)) (l.set i d) := by
  unfold Ints at *; simp [V.set, h, show ∀ l, (V.list l).els = l from fun _ => rfl, List.map_set]
theorem Ints.rep (n : Nat) (d : Nat) : Ints (V.rep n (.int d)) (List.replicate n d) := by
  unfold Ints; simp [V.rep, show ∀ l, (V.list l).els = l from fun _ => rfl]
theorem Ints.app {a b : V} {l k : List Nat} (h : Ints a l) (g : Ints b k) : Ints (a.app b) (l ++ k) := by
  unfold Ints at *
  unfold V.app
  split <;> simp_all [V.els]
theorem Ints.sub {a : V} {l : List Nat} (h : Ints a l) {i j : Nat} (hij : i ≤ j) (hj : j ≤ l.length) : Ints (a.sub (i : Int) (j : Int)) ((l.take j).drop i) := by
  unfold Ints at *
  unfold V.sub
  split <;> simp_all [V.els]
theorem ints_nil : Ints .nil [] := rfl
theorem ints_emp : Ints (.list []) [] := rfl
theorem maxI_abs (a : Int) : maxI a (-a) = a.natAbs := by unfold maxI; split <;> omega
theorem dg_get (m i : Nat) : (dg m)[i]? = if m / pw i = 0 then none else some (m / pw i % 10000) := by
  induction i generalizing m with
  | zero =>
    by_cases h : m = 0
    · subst h; simp [dg_zero]
    · rw [dg_pos h, pw_zero]; simp [h]
  | succ i ih =>
    by_cases h : m = 0
    · subst h; simp [dg_zero]
    · rw [dg_pos h, List.getElem?_cons_succ, ih, Nat.div_div_eq_div_mul, pw_succ, Nat.mul_comm]
theorem dg_lt (m i : Nat) : i < (dg m).length ↔ m / pw i ≠ 0 := by
  have := dg_get m i
  constructor
  · intro h q
    rw [if_pos q] at this
    rw [List.getElem?_eq_none_iff] at this; omega
  · intro h
    rw [if_neg h] at this
    exact (List.getElem?_eq_some_iff.1 this).1
theorem val_set {l : List Nat} {i d0 : Nat} (h : l[i]? = some d0) (d : Nat) : val (l.set i d) + d0 * pw i = val l + d * pw i := by
  induction l generalizing i with
  | nil => simp at h
  | cons x l ih =>
    cases i with
    | zero => simp at h; subst h; simp [val, pw_zero]; omega
    | succ i =>
      simp only [List.getElem?_cons_succ] at h
      have := ih h
      simp only [List.set_cons_succ, val, pw_succ]
      rw [Nat.mul_left_comm, Nat.mul_left_comm d]; omega
theorem Ok.set {l : List Nat} (h : Ok l) (i d : Nat) (hd : d < 10000) : Ok (l.set i d) := by
  intro x hx
  rcases List.mem_or_eq_of_mem_set hx with q | q
  · exact h x q
  · omega
theorem Ok.app {l k : List Nat} (h : Ok l) (g : Ok k) : Ok (l ++ k) := by
  intro x hx
  rcases List.mem_append.1 hx with q | q
  · exact h x q
  · exact g x q
theorem val_rep (n : Nat) : val (List.replicate n 0) = 0 := by
  induction n with
  | zero => rfl
  | succ n ih => simp [List.replicate_succ, val, ih]
theorem val_take_succ (l : List Nat) (j d : Nat) (h : l[j]? = some d) : val (l.take (j + 1)) = val (l.take j) + pw j * d := by
  obtain ⟨h1, h2⟩ := List.getElem?_eq_some_iff.1 h
  rw [List.take_add_one, h, val_append]
  simp [val]
  congr 2
  omega
theorem dg_drop (m i : Nat) : (dg m).drop i = dg (m / pw i) := by
  induction i generalizing m with
  | zero => simp [pw_zero]
  | succ i ih =>
    by_cases h : m = 0
    · subst h; simp [dg_zero]
    · rw [dg_pos h, List.drop_succ_cons, ih, Nat.div_div_eq_div_mul, pw_succ, Nat.mul_comm]
end Go.Sym
namespace X
open Go Go.Abs Go.Sym
set_option linter.unusedVariables false
noncomputable abbrev prog : Program := Go.Proofs.Try.prog
noncomputable def z {α : Type} : Tr α := .nil
noncomputable def l {α : Type} (v : α) : Tr α := .node (some v) .nil .nil .nil .nil
noncomputable def n {α : Type} (a b c d : Tr α) : Tr α := .node none a b c d
noncomputable def m {α : Type} (v : α) (a b c d : Tr α) : Tr α := .node (some v) a b c d
def pl : Plans := [(3, [(16, [(0, []), (1, []), (2, []), (3, []), (4, []), (5, [3]), (6, []), (7, []), (8, []), (9, [])])]), (4, [(6, [(0, []), (1, []), (2, []), (6, []), (3, [0, 1]), (4, [0]), (5, [])])]), (5, [(6, [(0, []), (1, []), (2, []), (6, []), (3, [0, 1]), (4, [0]), (5, [])])]), (6, [(18, [(0, []), (1, []), (7, []), (2, [0]), (3, []), (4, []), (5, []), (6, []), (8, []), (9, [])]), (23, [(0, []), (1, []), (2, [1]), (3, [])]), (29, [(0, []), (1, []), (7, []), (2, [0]), (3, []), (4, []), (5, []), (6, []), (8, []), (9, [])]), (34, [(0, []), (1, [0]), (2, []), (3, []), (4, []), (5, []), (6, []), (7, []), (8, [])])]), (7, [(7, [(0, []), (1, []), (2, []), (3, []), (4, []), (5, []), (6, []), (7, []), (8, [])]), (16, [(0, []), (1, []), (2, []), (3, []), (4, []), (5, [0]), (6, []), (7, []), (8, []), (9, []), (10, []), (11, []), (12, []), (13, []), (14, []), (15, []), (16, []), (17, []), (18, []), (19, []), (20, []), (21, []), (22, [])])]), (8, [(30, [(0, []), (1, []), (2, []), (3, []), (4, []), (5, []), (6, []), (7, []), (8, []), (9, []), (10, []), (11, []), (12, []), (13, []), (14, []), (15, []), (16, []), (17, []), (18, [])])]), (9, [(7, [(0, []), (1, []), (2, []), (3, []), (4, []), (5, []), (6, []), (7, []), (8, []), (9, []), (10, []), (11, []), (12, []), (13, []), (14, []), (15, []), (16, []), (17, []), (18, []), (19, []), (20, []), (21, []), (22, []), (23, []), (24, [23]), (25, []), (26, []), (27, []), (28, []), (29, []), (30, []), (31, []), (32, []), (33, [32]), (34, []), (35, []), (36, []), (37, []), (38, []), (39, []), (40, []), (41, []), (42, []), (43, []), (44, []), (45, []), (46, []), (47, []), (48, []), (49, []), (50, []), (51, []), (52, []), (53, []), (54, []), (55, []), (56, [])])]), (10, [(2, [(0, []), (1, []), (2, []), (4, []), (3, [0, 4]), (5, [0]), (6, []), (7, [])])]), (11, [(6, [(0, []), (1, []), (2, []), (3, []), (4, []), (5, []), (6, []), (7, []), (8, []), (9, []), (10, []), (11, []), (12, []), (13, []), (14, []), (15, []), (16, []), (17, []), (18, []), (19, []), (20, []), (21, []), (22, []), (23, []), (24, []), (25, []), (26, []), (27, []), (28, []), (29, [])])]), (12, [(22, [(0, []), (1, []), (2, []), (3, []), (4, []), (5, []), (6, []), (7, [1]), (8, []), (9, []), (10, []), (11, [])])]), (14, [(6, [(0, []), (1, []), (2, []), (3, []), (4, []), (5, []), (6, []), (7, []), (8, []), (9, []), (10, []), (11, []), (12, [6, 9]), (13, [])]), (12, [(0, []), (1, []), (2, []), (3, []), (4, []), (5, []), (6, []), (7, []), (8, []), (9, []), (10, []), (11, [])])]), (15, [(16, [(0, []), (1, []), (2, []), (3, []), (4, []), (5, []), (6, []), (7, []), (8, []), (9, []), (10, [])])]), (16, [(2, [(0, []), (1, []), (2, []), (3, []), (4, []), (5, []), (6, []), (7, []), (8, []), (9, []), (10, []), (11, []), (12, []), (13, []), (14, []), (15, []), (16, []), (17, []), (18, []), (19, []), (20, []), (21, []), (22, []), (23, []), (24, []), (25, []), (26, [])])]), (17, [(10, [(0, []), (1, []), (2, []), (3, []), (4, []), (5, []), (6, []), (7, []), (8, []), (9, []), (10, []), (11, []), (12, []), (13, []), (14, []), (15, [])]), (11, [(0, []), (1, []), (2, []), (3, []), (4, []), (5, []), (6, []), (7, []), (8, []), (9, []), (10, [1]), (11, []), (12, []), (13, []), (14, [])])]), (18, [(4, [(0, []), (3, []), (4, []), (5, []), (6, []), (7, []), (8, []), (9, []), (1, [5, 8]), (2, [5, 8]), (10, []), (11, []), (12, []), (13, []), (14, []), (15, [])])]), (19, [(4, [(0, []), (1, []), (2, []), (3, []), (6, []), (4, [6]), (5, [6]), (7, []), (8, []), (9, []), (10, [])])]), (22, [(6, [(0, []), (1, []), (2, []), (3, []), (4, []), (5, []), (6, []), (7, []), (8, [])])]), (28, [(3, [(0, []), (1, []), (3, []), (4, []), (7, []), (2, [4]), (5, []), (6, []), (8, []), (9, []), (10, [])])]), (29, [(1, [(0, []), (1, []), (2, []), (3, []), (4, []), (5, []), (6, []), (7, []), (8, []), (10, []), (11, []), (14, []), (15, []), (17, []), (18, []), (9, [1, 4, 11, 15, 18]), (12, [1, 4, 15, 18]), (13, [1, 4, 15, 18]), (16, [1, 4, 18]), (19, [1, 4]), (20, [1, 4]), (21, []), (22, []), (23, []), (24, []), (25, [])])]), (30, [(1, [(0, []), (1, []), (3, []), (4, []), (7, []), (8, []), (10, []), (11, []), (2, [4, 8, 11]), (5, [8, 11]), (6, [8, 11]), (9, [11]), (12, []), (13, []), (14, []), (15, [])]), (2, [(0, []), (1, []), (3, []), (4, []), (2, [4]), (5, []), (6, []), (7, [])]), (4, [(0, []), (1, []), (2, []), (3, []), (4, []), (6, []), (5, [1]), (7, []), (8, []), (9, []), (10, []), (11, [])]), (6, [(0, []), (1, []), (2, []), (3, []), (4, []), (6, []), (5, [1]), (7, []), (8, []), (9, []), (10, []), (11, [])]), (7, [(0, []), (1, []), (2, []), (3, []), (4, []), (6, []), (5, [1]), (7, []), (8, []), (9, []), (10, []), (11, [])])]), (35, [(18, [(0, []), (1, []), (2, []), (3, []), (4, []), (5, []), (6, []), (7, []), (8, []), (9, []), (10, []), (11, []), (12, []), (13, []), (14, []), (15, []), (16, [])])]), (39, [(6, [(0, []), (1, []), (2, []), (3, []), (4, []), (5, []), (6, []), (7, []), (8, [])])]), (42, [(3, [(0, []), (2, []), (5, []), (1, [2]), (3, []), (4, []), (6, [])])]), (45, [(6, [(0, []), (1, []), (2, []), (3, []), (4, []), (5, []), (6, []), (9, []), (10, []), (11, []), (12, []), (13, []), (14, []), (15, []), (16, []), (17, []), (18, []), (19, []), (20, []), (23, []), (24, []), (7, [0, 11, 14, 18, 23]), (8, []), (21, [0, 23]), (22, []), (25, [0]), (26, []), (27, []), (28, [])])]), (52, [(5, [(0, []), (1, []), (2, []), (3, []), (4, []), (5, []), (6, [4]), (7, []), (8, []), (9, []), (10, [])])]), (55, [(8, [(0, []), (1, []), (2, []), (3, []), (4, []), (5, []), (6, []), (7, []), (8, [])]), (9, [(0, []), (1, []), (2, []), (3, []), (4, []), (5, []), (6, []), (7, []), (8, [])])]), (59, [(11, [(0, []), (1, []), (2, []), (3, []), (4, []), (5, []), (6, []), (7, []), (8, []), (9, []), (10, []), (11, [])])]), (62, [(11, [(0, []), (1, []), (2, []), (3, []), (4, []), (5, []), (6, []), (7, [])])]), (65, [(12, [(0, []), (1, []), (2, []), (3, []), (4, []), (5, []), (6, []), (7, []), (8, [4]), (9, []), (10, [])])]), (69, [(1, [(0, []), (1, []), (2, []), (3, []), (4, []), (5, []), (6, []), (7, []), (8, []), (9, []), (11, []), (14, []), (16, []), (10, [3, 5, 11, 14, 16]), (12, []), (13, []), (15, [3, 5, 11, 16]), (17, []), (18, []), (19, []), (20, [])])]), (72, [(3, [(0, []), (1, []), (2, []), (3, []), (4, []), (5, []), (6, []), (7, []), (8, []), (9, []), (10, [])])]), (73, [(19, [(0, []), (1, []), (2, []), (3, []), (4, []), (5, []), (6, []), (7, []), (8, [])])]), (79, [(1, [(0, []), (1, []), (2, []), (3, []), (4, []), (5, []), (10, []), (6, []), (7, []), (8, []), (9, []), (11, []), (12, [])])]), (83, [(9, [(0, []), (1, []), (2, []), (3, []), (4, []), (5, []), (6, []), (7, []), (8, []), (9, []), (10, []), (11, [])]), (10, [(0, []), (1, []), (2, []), (3, []), (4, []), (5, []), (6, []), (7, []), (8, []), (9, [])]), (17, [(0, []), (1, []), (2, []), (3, []), (4, []), (5, []), (6, [])])]), (87, [(12, [(0, []), (1, []), (2, []), (3, []), (4, []), (5, []), (6, []), (7, []), (8, []), (9, []), (10, []), (11, []), (12, []), (13, [])]), (14, [(0, []), (1, []), (2, []), (3, []), (4, []), (5, []), (6, []), (7, []), (8, []), (9, []), (10, []), (11, []), (12, []), (13, [])])]), (97, [(3, [(0, []), (1, []), (2, []), (3, []), (4, []), (5, []), (6, []), (7, []), (8, []), (9, [])]), (4, [(0, []), (1, []), (2, []), (3, []), (4, []), (5, []), (6, [])])])]
noncomputable def C (f : Nat) (l : List Nat) : Code := codeAt prog f l
noncomputable def O (f : Nat) (l : List Nat) : Array Oper := opsAt prog f l
noncomputable def R (f : Nat) (l : List Nat) (i : Nat) : AItem := regAt prog f l i
noncomputable def PA (f : Nat) (l : List Nat) : Array Tmp := parAt prog f l
end X
namespace X
open Go Go.Abs Go.Sym
set_option linter.unusedVariables false
/-! haruspex/frac.gcd -/
namespace frac_gcd
abbrev f : Nat := 66
noncomputable def K : Cfg := ⟨prog, pl, [], [], []⟩
noncomputable def s0 : SMach := ⟨⟨66, 12, (m (.int .u64 (.toI (.vv 0))) (l (.int .u64 (.toI (.vv 1)))) z z z), [.code (C 66 [])], [], .run, false, none⟩, [], ⟨0, 2, 2, z⟩⟩
noncomputable def s1 : SMach := ⟨⟨66, 12, (m (.int .u64 (.iv 0)) (l (.int .u64 (.iv 1))) z z z), [.code (C 66 [1, 0, 0, 0]), .inLoop (C 66 [1, 0, 0, 0]), .inBlock 0, .code (C 66 [1, 1])], [], .run, false, none⟩, [], ⟨0, 2, 2, z⟩⟩
theorem p0 : stretch K 7 [] s0 s1 [] ⟨[(.toI (.vv 0)), (.toI (.vv 1))], [], [(.vv 0), (.vv 1)], [(.cell 0 0), (.cell 1 0)]⟩ [] = some (s1, []) := by kernel_rfl
theorem p1 : stretch K 19 [true] s1 s1 [] ⟨[(.rem (.iv 1) (.iv 0)), (.iv 0)], [], [(.vv 0), (.vv 1)], [(.cell 0 0), (.cell 1 0)]⟩ [] = some (s1, [.ask (.lt (.il 0) (.iv 0)), .ask (.not (.eq (.iv 0) (.il 0)))]) := by kernel_rfl
theorem p2 : last K 66 14 [false] s1 = some ((.ofI (.iv 1)), [.ask (.not (.lt (.il 0) (.iv 0)))]) := by kernel_rfl
theorem b : sbegin prog 66 = some s0 := by kernel_rfl
end frac_gcd
end X
namespace X
open Go Go.Abs Go.Sym
set_option linter.unusedVariables false
/-! haruspex/frac.size -/
namespace frac_size
abbrev f : Nat := 67
noncomputable def K : Cfg := ⟨prog, pl, [(67, 7), (67, 6), (67, 9)], [], []⟩
noncomputable def s0 : SMach := ⟨⟨67, 10, (l (.int .i64 (.toI (.vv 0)))), [.code (C 67 [])], [], .run, false, none⟩, [], ⟨0, 1, 1, z⟩⟩
theorem p1 : last K 67 19 [false] s0 = some ((.ofI (.wrap .u64 (.toI (.vv 0)))), [.ask (.not (.lt (.toI (.vv 0)) (.il 0)))]) := by kernel_rfl
theorem b : sbegin prog 67 = some s0 := by kernel_rfl
end frac_size
end X
namespace X
open Go Go.Abs Go.Sym
set_option linter.unusedVariables false
/-! haruspex/haruspexref01.digits -/
namespace ref01_digits
abbrev f : Nat := 57
noncomputable def K : Cfg := ⟨prog, pl, [], [], []⟩
noncomputable def s0 : SMach := ⟨⟨57, 19, (l (.int .i64 (.toI (.vv 0)))), [.code (C 57 [])], [], .run, false, none⟩, [], ⟨0, 1, 1, z⟩⟩
noncomputable def s1 : SMach := ⟨⟨57, 19, (m (.int .i64 (.iv 0)) z z (l (.view 0)) z), [.code (C 57 [1, 1, 0, 0, 0]), .inLoop (C 57 [1, 1, 0, 0, 0]), .inBlock 0, .code (C 57 [1, 1, 1])], [], .run, false, none⟩, [], ⟨1, 1, 2, (l (.arr 3 (.vv 1) 0))⟩⟩
theorem p0 : stretch K 11 [] s0 s1 [] ⟨[(.toI (.vv 0))], [], [(.vv 0), .nil], [(.cell 0 0)]⟩ [(0, none)] = some (s1, []) := by kernel_rfl
theorem p1 : stretch K 33 [true] s1 s1 [] ⟨[(.quo (.iv 0) (.il 10000))], [], [(.vv 0), (.snoc (.vv 1) (.ofI (.max (.rem (.iv 0) (.il 10000)) (.sub (.il 0) (.rem (.iv 0) (.il 10000))))))], [(.cell 0 0)]⟩ [(0, (some 2))] = some (s1, [.ask (.not (.eq (.iv 0) (.il 0))), .ask (.and (.le (.il (-9223372036854775808)) (.sub (.il 0) (.rem (.iv 0) (.il 10000)))) (.le (.sub (.il 0) (.rem (.iv 0) (.il 10000))) (.il 9223372036854775807))), .ask (.le (.add (.len (.vv 1)) (.il 1)) (.il 8796093021696)), .ask (.and (.le (.il (-9223372036854775808)) (.quo (.iv 0) (.il 10000))) (.le (.quo (.iv 0) (.il 10000)) (.il 9223372036854775807)))]) := by kernel_rfl
theorem p2 : last K 57 14 [false] s1 = some ((.vv 1), [.ask (.not (.not (.eq (.iv 0) (.il 0))))]) := by kernel_rfl
theorem b : sbegin prog 57 = some s0 := by kernel_rfl
end ref01_digits
end X
namespace X
open Go Go.Abs Go.Sym
set_option linter.unusedVariables false
/-! haruspex/haruspexref01.cut -/
namespace ref01_cut
abbrev f : Nat := 75
noncomputable def K : Cfg := ⟨prog, pl, [], [], []⟩
noncomputable def s0 : SMach := ⟨⟨75, 21, (l (.pure 3 (.vv 0) (.cell 0 0))), [.code (C 75 [])], [], .run, false, none⟩, [], ⟨0, 1, 1, z⟩⟩
noncomputable def s1 : SMach := ⟨⟨75, 21, (l (.pure 3 (.vv 1) (.cell 1 0))), [.code (C 75 [1, 0, 0, 0]), .inLoop (C 75 [1, 0, 0, 0]), .inBlock 0, .code (C 75 [1, 1])], [], .run, false, none⟩, [], ⟨0, 2, 2, z⟩⟩
theorem p0 : stretch K 7 [] s0 s1 [] ⟨[], [], [(.vv 0), (.vv 0)], [(.cell 0 0), (.cell 0 0)]⟩ [] = some (s1, []) := by kernel_rfl
theorem p1 : stretch K 29 [true, true] s1 s1 [] ⟨[], [], [(.vv 0), (.cut (.vv 1) (.il 0) (.sub (.len (.vv 1)) (.il 1)))], [(.cell 0 0), (.sub (.cell 1 0) (.il 0) (.sub (.len (.vv 1)) (.il 1)) 1)]⟩ [] = some (s1, [.ask (.lt (.il 0) (.len (.vv 1))), .ask (.and (.le (.il (-9223372036854775808)) (.sub (.len (.vv 1)) (.il 1))) (.le (.sub (.len (.vv 1)) (.il 1)) (.il 9223372036854775807))), .ask (.and (.le (.il 0) (.sub (.len (.vv 1)) (.il 1))) (.lt (.sub (.len (.vv 1)) (.il 1)) (.len (.vv 1)))), .ask (.eq (.toI (.get (.vv 1) (.sub (.len (.vv 1)) (.il 1)))) (.il 0)), .ask (.and (.le (.il (-9223372036854775808)) (.sub (.len (.vv 1)) (.il 1))) (.le (.sub (.len (.vv 1)) (.il 1)) (.il 9223372036854775807))), .ask (.le (.il 0) (.sub (.len (.vv 1)) (.il 1))), .ask (.le (.sub (.len (.vv 1)) (.il 1)) (.len (.vv 1)))]) := by kernel_rfl
theorem p2 : last K 75 24 [true, false] s1 = some ((.vv 1), [.ask (.lt (.il 0) (.len (.vv 1))), .ask (.and (.le (.il (-9223372036854775808)) (.sub (.len (.vv 1)) (.il 1))) (.le (.sub (.len (.vv 1)) (.il 1)) (.il 9223372036854775807))), .ask (.and (.le (.il 0) (.sub (.len (.vv 1)) (.il 1))) (.lt (.sub (.len (.vv 1)) (.il 1)) (.len (.vv 1)))), .ask (.not (.eq (.toI (.get (.vv 1) (.sub (.len (.vv 1)) (.il 1)))) (.il 0)))]) := by kernel_rfl
theorem p3 : last K 75 24 [false] s1 = some ((.vv 1), [.ask (.not (.lt (.il 0) (.len (.vv 1))))]) := by kernel_rfl
theorem b : sbegin prog 75 = some s0 := by kernel_rfl
end ref01_cut
end X
namespace X
open Go Go.Abs Go.Sym
set_option linter.unusedVariables false
/-! haruspex/haruspexref01.compare -/
namespace ref01_compare
abbrev f : Nat := 55
noncomputable def K : Cfg := ⟨prog, pl, [], [], []⟩
noncomputable def s0 : SMach := ⟨⟨55, 41, (m (.pure 3 (.vv 0) (.cell 0 0)) (l (.pure 3 (.vv 1) (.cell 1 0))) z z z), [.code (C 55 [])], [], .run, false, none⟩, [], ⟨0, 2, 2, z⟩⟩
noncomputable def s1 : SMach := ⟨⟨55, 41, (m (.pure 3 (.vv 0) (.cell 2 0)) (m (.pure 3 (.vv 1) (.cell 3 0)) (l (.int .i64 (.iv 0))) z z z) z z z), [.code (C 55 [1, 1, 0, 1, 0, 0]), .inLoop (C 55 [1, 1, 0, 1, 0, 0]), .inBlock 0, .code (C 55 [1, 1, 1])], [], .run, false, none⟩, [], ⟨0, 4, 2, z⟩⟩
theorem p0 : last K 55 29 [true, true] s0 = some ((.ofI (.il (-1))), [.ask (.not (.eq (.len (.vv 0)) (.len (.vv 1)))), .ask (.lt (.len (.vv 0)) (.len (.vv 1)))]) := by kernel_rfl
theorem p1 : last K 55 30 [true, false] s0 = some ((.ofI (.il 1)), [.ask (.not (.eq (.len (.vv 0)) (.len (.vv 1)))), .ask (.not (.lt (.len (.vv 0)) (.len (.vv 1))))]) := by kernel_rfl
theorem p2 : stretch K 25 [false] s0 s1 [] ⟨[(.sub (.len (.vv 0)) (.il 1))], [], [(.vv 0), (.vv 1)], [(.cell 0 0), (.cell 1 0), (.cell 0 0), (.cell 1 0)]⟩ [] = some (s1, [.ask (.not (.not (.eq (.len (.vv 0)) (.len (.vv 1))))), .ask (.and (.le (.il (-9223372036854775808)) (.sub (.len (.vv 0)) (.il 1))) (.le (.sub (.len (.vv 0)) (.il 1)) (.il 9223372036854775807)))]) := by kernel_rfl
theorem p3 : last K 55 42 [true, true, true] s1 = some ((.ofI (.il (-1))), [.ask (.le (.il 0) (.iv 0)), .ask (.and (.le (.il 0) (.iv 0)) (.lt (.iv 0) (.len (.vv 0)))), .ask (.and (.le (.il 0) (.iv 0)) (.lt (.iv 0) (.len (.vv 1)))), .ask (.not (.eq (.toI (.get (.vv 0) (.iv 0))) (.toI (.get (.vv 1) (.iv 0))))), .ask (.and (.le (.il 0) (.iv 0)) (.lt (.iv 0) (.len (.vv 0)))), .ask (.and (.le (.il 0) (.iv 0)) (.lt (.iv 0) (.len (.vv 1)))), .ask (.lt (.toI (.get (.vv 0) (.iv 0))) (.toI (.get (.vv 1) (.iv 0))))]) := by kernel_rfl
theorem p4 : last K 55 43 [true, true, false] s1 = some ((.ofI (.il 1)), [.ask (.le (.il 0) (.iv 0)), .ask (.and (.le (.il 0) (.iv 0)) (.lt (.iv 0) (.len (.vv 0)))), .ask (.and (.le (.il 0) (.iv 0)) (.lt (.iv 0) (.len (.vv 1)))), .ask (.not (.eq (.toI (.get (.vv 0) (.iv 0))) (.toI (.get (.vv 1) (.iv 0))))), .ask (.and (.le (.il 0) (.iv 0)) (.lt (.iv 0) (.len (.vv 0)))), .ask (.and (.le (.il 0) (.iv 0)) (.lt (.iv 0) (.len (.vv 1)))), .ask (.not (.lt (.toI (.get (.vv 0) (.iv 0))) (.toI (.get (.vv 1) (.iv 0)))))]) := by kernel_rfl
theorem p5 : stretch K 31 [true, false] s1 s1 [] ⟨[(.sub (.iv 0) (.il 1))], [], [(.vv 0), (.vv 1)], [(.cell 0 0), (.cell 1 0), (.cell 2 0), (.cell 3 0)]⟩ [] = some (s1, [.ask (.le (.il 0) (.iv 0)), .ask (.and (.le (.il 0) (.iv 0)) (.lt (.iv 0) (.len (.vv 0)))), .ask (.and (.le (.il 0) (.iv 0)) (.lt (.iv 0) (.len (.vv 1)))), .ask (.not (.not (.eq (.toI (.get (.vv 0) (.iv 0))) (.toI (.get (.vv 1) (.iv 0)))))), .ask (.and (.le (.il (-9223372036854775808)) (.sub (.iv 0) (.il 1))) (.le (.sub (.iv 0) (.il 1)) (.il 9223372036854775807)))]) := by kernel_rfl
theorem p6 : last K 55 13 [false] s1 = some ((.ofI (.il 0)), [.ask (.not (.le (.il 0) (.iv 0)))]) := by kernel_rfl
theorem b : sbegin prog 55 = some s0 := by kernel_rfl
end ref01_compare
end X
namespace X
open Go Go.Abs Go.Sym
set_option linter.unusedVariables false
/-! haruspex/haruspexref01.times -/
namespace ref01_times
abbrev f : Nat := 59
noncomputable def K : Cfg := ⟨prog, pl, [], [75], []⟩
noncomputable def s0 : SMach := ⟨⟨59, 65, (m (.pure 3 (.vv 0) (.cell 0 0)) (l (.pure 3 (.vv 1) (.cell 1 0))) z z z), [.code (C 59 [])], [], .run, false, none⟩, [], ⟨0, 2, 2, z⟩⟩
noncomputable def s1 : SMach := ⟨⟨59, 65, (m (.pure 3 (.vv 0) (.cell 2 0)) (m (.pure 3 (.vv 1) (.cell 3 0)) (l (.view 0)) z z z) (n (l (.int .i64 (.iv 0))) z z z) z z), [.code (C 59 [1, 1, 0, 1, 0, 0]), .inLoop (C 59 [1, 1, 0, 1, 0, 0]), .inBlock 0, .code (C 59 [1, 1, 1])], [], .run, false, none⟩, [], ⟨1, 4, 3, (l (.arr 3 (.vv 2) 0))⟩⟩
noncomputable def s2 : SMach := ⟨⟨59, 65, (m (.pure 3 (.vv 0) (.cell 4 0)) (m (.pure 3 (.vv 1) (.cell 5 0)) (l (.view 0)) z z z) (n (l (.int .i64 (.iv 2))) z z z) (n (l (.int .i64 (.iv 0))) z z z) (n (l (.int .i64 (.iv 1))) z z z)), [.code (C 59 [1, 1, 0, 1, 0, 0, 1, 0, 0, 1, 1, 0, 0]), .inLoop (C 59 [1, 1, 0, 1, 0, 0, 1, 0, 0, 1, 1, 0, 0]), .inBlock 2, .inBlock 1, .code (C 59 [1, 1, 0, 1, 0, 0, 1, 1]), .inLoop (C 59 [1, 1, 0, 1, 0, 0]), .inBlock 0, .code (C 59 [1, 1, 1])], [], .run, false, none⟩, [], ⟨1, 6, 3, (l (.arr 3 (.vv 2) 0))⟩⟩
theorem p0 : stretch K 21 [] s0 s1 [] ⟨[(.il 0)], [], [(.vv 0), (.vv 1), (.rep (.add (.len (.vv 0)) (.len (.vv 1))) (.ofI (.il 0)))], [(.cell 0 0), (.cell 1 0), (.cell 0 0), (.cell 1 0)]⟩ [(0, (some 0))] = some (s1, [.ask (.and (.le (.il (-9223372036854775808)) (.add (.len (.vv 0)) (.len (.vv 1)))) (.le (.add (.len (.vv 0)) (.len (.vv 1))) (.il 9223372036854775807))), .ask (.and (.le (.il 0) (.add (.len (.vv 0)) (.len (.vv 1)))) (.le (.add (.len (.vv 0)) (.len (.vv 1))) (.il 17592186044416)))]) := by kernel_rfl
theorem p1 : stretch K 22 [true] s1 s2 [] ⟨[(.il 0), (.il 0), (.iv 0)], [], [(.vv 0), (.vv 1), (.vv 2)], [(.cell 0 0), (.cell 1 0), (.cell 2 0), (.cell 3 0), (.cell 2 0), (.cell 3 0)]⟩ [(0, (some 0))] = some (s2, [.ask (.lt (.iv 0) (.len (.vv 0)))]) := by kernel_rfl
theorem p2 : last K 59 17 [false] s1 = some ((.vv 3), [.ask (.not (.lt (.iv 0) (.len (.vv 0)))), .call 75 [(.vv 2)]]) := by kernel_rfl
theorem p3 : stretch K 74 [true, true] s2 s2 [] ⟨[(.quo (.add (.add (.iv 0) (.toI (.get (.vv 2) (.add (.iv 2) (.iv 1))))) (.mul (.toI (.get (.vv 0) (.iv 2))) (.toI (.get (.vv 1) (.iv 1))))) (.il 10000)), (.add (.iv 1) (.il 1)), (.iv 2)], [], [(.vv 0), (.vv 1), (.set (.vv 2) (.add (.iv 2) (.iv 1)) (.ofI (.rem (.add (.add (.iv 0) (.toI (.get (.vv 2) (.add (.iv 2) (.iv 1))))) (.mul (.toI (.get (.vv 0) (.iv 2))) (.toI (.get (.vv 1) (.iv 1))))) (.il 10000))))], [(.cell 0 0), (.cell 1 0), (.cell 2 0), (.cell 3 0), (.cell 4 0), (.cell 5 0)]⟩ [(0, (some 0))] = some (s2, [.ask (.lt (.iv 1) (.len (.vv 1))), .ask (.and (.le (.il (-9223372036854775808)) (.add (.iv 2) (.iv 1))) (.le (.add (.iv 2) (.iv 1)) (.il 9223372036854775807))), .ask (.and (.le (.il 0) (.add (.iv 2) (.iv 1))) (.lt (.add (.iv 2) (.iv 1)) (.len (.vv 2)))), .ask (.and (.le (.il 0) (.add (.iv 2) (.iv 1))) (.lt (.add (.iv 2) (.iv 1)) (.len (.vv 2)))), .ask (.and (.le (.il (-9223372036854775808)) (.add (.iv 0) (.toI (.get (.vv 2) (.add (.iv 2) (.iv 1)))))) (.le (.add (.iv 0) (.toI (.get (.vv 2) (.add (.iv 2) (.iv 1))))) (.il 9223372036854775807))), .ask (.lt (.iv 1) (.len (.vv 1))), .ask (.and (.le (.il 0) (.iv 2)) (.lt (.iv 2) (.len (.vv 0)))), .ask (.and (.le (.il 0) (.iv 1)) (.lt (.iv 1) (.len (.vv 1)))), .ask (.and (.le (.il (-9223372036854775808)) (.mul (.toI (.get (.vv 0) (.iv 2))) (.toI (.get (.vv 1) (.iv 1))))) (.le (.mul (.toI (.get (.vv 0) (.iv 2))) (.toI (.get (.vv 1) (.iv 1)))) (.il 9223372036854775807))), .ask (.and (.le (.il (-9223372036854775808)) (.add (.add (.iv 0) (.toI (.get (.vv 2) (.add (.iv 2) (.iv 1))))) (.mul (.toI (.get (.vv 0) (.iv 2))) (.toI (.get (.vv 1) (.iv 1)))))) (.le (.add (.add (.iv 0) (.toI (.get (.vv 2) (.add (.iv 2) (.iv 1))))) (.mul (.toI (.get (.vv 0) (.iv 2))) (.toI (.get (.vv 1) (.iv 1))))) (.il 9223372036854775807))), .ask (.and (.le (.il (-9223372036854775808)) (.add (.iv 2) (.iv 1))) (.le (.add (.iv 2) (.iv 1)) (.il 9223372036854775807))), .ask (.and (.le (.il 0) (.add (.iv 2) (.iv 1))) (.lt (.add (.iv 2) (.iv 1)) (.len (.vv 2)))), .ask (.and (.le (.il 0) (.add (.iv 2) (.iv 1))) (.lt (.add (.iv 2) (.iv 1)) (.len (.vv 2)))), .ask (.and (.le (.il (-9223372036854775808)) (.quo (.add (.add (.iv 0) (.toI (.get (.vv 2) (.add (.iv 2) (.iv 1))))) (.mul (.toI (.get (.vv 0) (.iv 2))) (.toI (.get (.vv 1) (.iv 1))))) (.il 10000))) (.le (.quo (.add (.add (.iv 0) (.toI (.get (.vv 2) (.add (.iv 2) (.iv 1))))) (.mul (.toI (.get (.vv 0) (.iv 2))) (.toI (.get (.vv 1) (.iv 1))))) (.il 10000)) (.il 9223372036854775807))), .ask (.and (.le (.il (-9223372036854775808)) (.add (.iv 1) (.il 1))) (.le (.add (.iv 1) (.il 1)) (.il 9223372036854775807)))]) := by kernel_rfl
theorem p6 : stretch K 61 [false, true, false] s2 s2 [] ⟨[(.quo (.add (.iv 0) (.toI (.get (.vv 2) (.add (.iv 2) (.iv 1))))) (.il 10000)), (.add (.iv 1) (.il 1)), (.iv 2)], [], [(.vv 0), (.vv 1), (.set (.vv 2) (.add (.iv 2) (.iv 1)) (.ofI (.rem (.add (.iv 0) (.toI (.get (.vv 2) (.add (.iv 2) (.iv 1))))) (.il 10000))))], [(.cell 0 0), (.cell 1 0), (.cell 2 0), (.cell 3 0), (.cell 4 0), (.cell 5 0)]⟩ [(0, (some 0))] = some (s2, [.ask (.not (.lt (.iv 1) (.len (.vv 1)))), .ask (.lt (.il 0) (.iv 0)), .ask (.and (.le (.il (-9223372036854775808)) (.add (.iv 2) (.iv 1))) (.le (.add (.iv 2) (.iv 1)) (.il 9223372036854775807))), .ask (.and (.le (.il 0) (.add (.iv 2) (.iv 1))) (.lt (.add (.iv 2) (.iv 1)) (.len (.vv 2)))), .ask (.and (.le (.il 0) (.add (.iv 2) (.iv 1))) (.lt (.add (.iv 2) (.iv 1)) (.len (.vv 2)))), .ask (.and (.le (.il (-9223372036854775808)) (.add (.iv 0) (.toI (.get (.vv 2) (.add (.iv 2) (.iv 1)))))) (.le (.add (.iv 0) (.toI (.get (.vv 2) (.add (.iv 2) (.iv 1))))) (.il 9223372036854775807))), .ask (.not (.lt (.iv 1) (.len (.vv 1)))), .ask (.and (.le (.il (-9223372036854775808)) (.add (.iv 2) (.iv 1))) (.le (.add (.iv 2) (.iv 1)) (.il 9223372036854775807))), .ask (.and (.le (.il 0) (.add (.iv 2) (.iv 1))) (.lt (.add (.iv 2) (.iv 1)) (.len (.vv 2)))), .ask (.and (.le (.il 0) (.add (.iv 2) (.iv 1))) (.lt (.add (.iv 2) (.iv 1)) (.len (.vv 2)))), .ask (.and (.le (.il (-9223372036854775808)) (.quo (.add (.iv 0) (.toI (.get (.vv 2) (.add (.iv 2) (.iv 1))))) (.il 10000))) (.le (.quo (.add (.iv 0) (.toI (.get (.vv 2) (.add (.iv 2) (.iv 1))))) (.il 10000)) (.il 9223372036854775807))), .ask (.and (.le (.il (-9223372036854775808)) (.add (.iv 1) (.il 1))) (.le (.add (.iv 1) (.il 1)) (.il 9223372036854775807)))]) := by kernel_rfl
theorem p7 : stretch K 21 [false, false] s2 s1 [] ⟨[(.add (.iv 2) (.il 1))], [], [(.vv 0), (.vv 1), (.vv 2)], [(.cell 0 0), (.cell 1 0), (.cell 4 0), (.cell 5 0)]⟩ [(0, (some 0))] = some (s1, [.ask (.not (.lt (.iv 1) (.len (.vv 1)))), .ask (.not (.lt (.il 0) (.iv 0))), .ask (.and (.le (.il (-9223372036854775808)) (.add (.iv 2) (.il 1))) (.le (.add (.iv 2) (.il 1)) (.il 9223372036854775807)))]) := by kernel_rfl
theorem b : sbegin prog 59 = some s0 := by kernel_rfl
end ref01_times
end X
namespace X
open Go Go.Abs Go.Sym
set_option linter.unusedVariables false
/-! haruspex/haruspexref01.minus -/
namespace ref01_minus
abbrev f : Nat := 61
noncomputable def K : Cfg := ⟨prog, pl, [], [75], []⟩
noncomputable def s0 : SMach := ⟨⟨61, 41, (m (.pure 3 (.vv 0) (.cell 0 0)) (l (.pure 3 (.vv 1) (.cell 1 0))) z z z), [.code (C 61 [])], [], .run, false, none⟩, [], ⟨0, 2, 2, z⟩⟩
noncomputable def s1 : SMach := ⟨⟨61, 41, (m (.pure 3 (.vv 0) (.cell 2 0)) (m (.pure 3 (.vv 1) (.cell 3 0)) (l (.view 0)) z z z) (n (l (.int .i64 (.iv 0))) z z z) (n (l (.int .i64 (.iv 1))) z z z) z), [.code (C 61 [1, 1, 1, 0, 1, 0, 0]), .inLoop (C 61 [1, 1, 1, 0, 1, 0, 0]), .inBlock 0, .code (C 61 [1, 1, 1, 1])], [], .run, false, none⟩, [], ⟨1, 4, 3, (l (.arr 3 (.vv 2) 0))⟩⟩
theorem p0 : stretch K 19 [] s0 s1 [] ⟨[(.il 0), (.il 0)], [], [(.vv 0), (.vv 1), .nil], [(.cell 0 0), (.cell 1 0), (.cell 0 0), (.cell 1 0)]⟩ [(0, none)] = some (s1, []) := by kernel_rfl
theorem p1 : stretch K 74 [true, true, true] s1 s1 [] ⟨[(.il 1), (.add (.iv 1) (.il 1))], [], [(.vv 0), (.vv 1), (.snoc (.vv 2) (.ofI (.add (.sub (.sub (.toI (.get (.vv 0) (.iv 1))) (.iv 0)) (.toI (.get (.vv 1) (.iv 1)))) (.il 10000))))], [(.cell 0 0), (.cell 1 0), (.cell 2 0), (.cell 3 0)]⟩ [(0, (some 2))] = some (s1, [.ask (.lt (.iv 1) (.len (.vv 0))), .ask (.and (.le (.il 0) (.iv 1)) (.lt (.iv 1) (.len (.vv 0)))), .ask (.and (.le (.il (-9223372036854775808)) (.sub (.toI (.get (.vv 0) (.iv 1))) (.iv 0))) (.le (.sub (.toI (.get (.vv 0) (.iv 1))) (.iv 0)) (.il 9223372036854775807))), .ask (.lt (.iv 1) (.len (.vv 1))), .ask (.and (.le (.il 0) (.iv 1)) (.lt (.iv 1) (.len (.vv 1)))), .ask (.and (.le (.il (-9223372036854775808)) (.sub (.sub (.toI (.get (.vv 0) (.iv 1))) (.iv 0)) (.toI (.get (.vv 1) (.iv 1))))) (.le (.sub (.sub (.toI (.get (.vv 0) (.iv 1))) (.iv 0)) (.toI (.get (.vv 1) (.iv 1)))) (.il 9223372036854775807))), .ask (.lt (.sub (.sub (.toI (.get (.vv 0) (.iv 1))) (.iv 0)) (.toI (.get (.vv 1) (.iv 1)))) (.il 0)), .ask (.and (.le (.il (-9223372036854775808)) (.add (.sub (.sub (.toI (.get (.vv 0) (.iv 1))) (.iv 0)) (.toI (.get (.vv 1) (.iv 1)))) (.il 10000))) (.le (.add (.sub (.sub (.toI (.get (.vv 0) (.iv 1))) (.iv 0)) (.toI (.get (.vv 1) (.iv 1)))) (.il 10000)) (.il 9223372036854775807))), .ask (.le (.add (.len (.vv 2)) (.il 1)) (.il 8796093021696)), .ask (.and (.le (.il (-9223372036854775808)) (.add (.iv 1) (.il 1))) (.le (.add (.iv 1) (.il 1)) (.il 9223372036854775807)))]) := by kernel_rfl
theorem p2 : stretch K 66 [true, true, false] s1 s1 [] ⟨[(.il 0), (.add (.iv 1) (.il 1))], [], [(.vv 0), (.vv 1), (.snoc (.vv 2) (.ofI (.sub (.sub (.toI (.get (.vv 0) (.iv 1))) (.iv 0)) (.toI (.get (.vv 1) (.iv 1))))))], [(.cell 0 0), (.cell 1 0), (.cell 2 0), (.cell 3 0)]⟩ [(0, (some 2))] = some (s1, [.ask (.lt (.iv 1) (.len (.vv 0))), .ask (.and (.le (.il 0) (.iv 1)) (.lt (.iv 1) (.len (.vv 0)))), .ask (.and (.le (.il (-9223372036854775808)) (.sub (.toI (.get (.vv 0) (.iv 1))) (.iv 0))) (.le (.sub (.toI (.get (.vv 0) (.iv 1))) (.iv 0)) (.il 9223372036854775807))), .ask (.lt (.iv 1) (.len (.vv 1))), .ask (.and (.le (.il 0) (.iv 1)) (.lt (.iv 1) (.len (.vv 1)))), .ask (.and (.le (.il (-9223372036854775808)) (.sub (.sub (.toI (.get (.vv 0) (.iv 1))) (.iv 0)) (.toI (.get (.vv 1) (.iv 1))))) (.le (.sub (.sub (.toI (.get (.vv 0) (.iv 1))) (.iv 0)) (.toI (.get (.vv 1) (.iv 1)))) (.il 9223372036854775807))), .ask (.not (.lt (.sub (.sub (.toI (.get (.vv 0) (.iv 1))) (.iv 0)) (.toI (.get (.vv 1) (.iv 1)))) (.il 0))), .ask (.le (.add (.len (.vv 2)) (.il 1)) (.il 8796093021696)), .ask (.and (.le (.il (-9223372036854775808)) (.add (.iv 1) (.il 1))) (.le (.add (.iv 1) (.il 1)) (.il 9223372036854775807)))]) := by kernel_rfl
theorem p3 : stretch K 66 [true, false, true] s1 s1 [] ⟨[(.il 1), (.add (.iv 1) (.il 1))], [], [(.vv 0), (.vv 1), (.snoc (.vv 2) (.ofI (.add (.sub (.toI (.get (.vv 0) (.iv 1))) (.iv 0)) (.il 10000))))], [(.cell 0 0), (.cell 1 0), (.cell 2 0), (.cell 3 0)]⟩ [(0, (some 2))] = some (s1, [.ask (.lt (.iv 1) (.len (.vv 0))), .ask (.and (.le (.il 0) (.iv 1)) (.lt (.iv 1) (.len (.vv 0)))), .ask (.and (.le (.il (-9223372036854775808)) (.sub (.toI (.get (.vv 0) (.iv 1))) (.iv 0))) (.le (.sub (.toI (.get (.vv 0) (.iv 1))) (.iv 0)) (.il 9223372036854775807))), .ask (.not (.lt (.iv 1) (.len (.vv 1)))), .ask (.lt (.sub (.toI (.get (.vv 0) (.iv 1))) (.iv 0)) (.il 0)), .ask (.and (.le (.il (-9223372036854775808)) (.add (.sub (.toI (.get (.vv 0) (.iv 1))) (.iv 0)) (.il 10000))) (.le (.add (.sub (.toI (.get (.vv 0) (.iv 1))) (.iv 0)) (.il 10000)) (.il 9223372036854775807))), .ask (.le (.add (.len (.vv 2)) (.il 1)) (.il 8796093021696)), .ask (.and (.le (.il (-9223372036854775808)) (.add (.iv 1) (.il 1))) (.le (.add (.iv 1) (.il 1)) (.il 9223372036854775807)))]) := by kernel_rfl
theorem p4 : stretch K 58 [true, false, false] s1 s1 [] ⟨[(.il 0), (.add (.iv 1) (.il 1))], [], [(.vv 0), (.vv 1), (.snoc (.vv 2) (.ofI (.sub (.toI (.get (.vv 0) (.iv 1))) (.iv 0))))], [(.cell 0 0), (.cell 1 0), (.cell 2 0), (.cell 3 0)]⟩ [(0, (some 2))] = some (s1, [.ask (.lt (.iv 1) (.len (.vv 0))), .ask (.and (.le (.il 0) (.iv 1)) (.lt (.iv 1) (.len (.vv 0)))), .ask (.and (.le (.il (-9223372036854775808)) (.sub (.toI (.get (.vv 0) (.iv 1))) (.iv 0))) (.le (.sub (.toI (.get (.vv 0) (.iv 1))) (.iv 0)) (.il 9223372036854775807))), .ask (.not (.lt (.iv 1) (.len (.vv 1)))), .ask (.not (.lt (.sub (.toI (.get (.vv 0) (.iv 1))) (.iv 0)) (.il 0))), .ask (.le (.add (.len (.vv 2)) (.il 1)) (.il 8796093021696)), .ask (.and (.le (.il (-9223372036854775808)) (.add (.iv 1) (.il 1))) (.le (.add (.iv 1) (.il 1)) (.il 9223372036854775807)))]) := by kernel_rfl
theorem p5 : last K 61 17 [false] s1 = some ((.vv 3), [.ask (.not (.lt (.iv 1) (.len (.vv 0)))), .call 75 [(.vv 2)]]) := by kernel_rfl
theorem b : sbegin prog 61 = some s0 := by kernel_rfl
end ref01_minus
end X
namespace X
open Go Go.Abs Go.Sym
set_option linter.unusedVariables false
/-! haruspex/haruspexref01.divide -/
namespace ref01_divide
abbrev f : Nat := 73
noncomputable def K : Cfg := ⟨prog, pl, [], [75, 55, 59, 61], []⟩
noncomputable def s0 : SMach := ⟨⟨73, 124, (m (.pure 3 (.vv 0) (.cell 0 0)) (l (.pure 3 (.vv 1) (.cell 1 0))) z z z), [.code (C 73 [])], [], .run, false, none⟩, [], ⟨0, 2, 2, z⟩⟩
noncomputable def s1 : SMach := ⟨⟨73, 124, (m (.pure 3 (.vv 0) (.cell 2 0)) (m (.pure 3 (.vv 1) (.cell 3 0)) z (l (.int .i64 (.iv 0))) z z) (n (l (.int .i64 (.sub (.len (.vv 1)) (.il 1)))) z z z) (n (l (.view 0)) z z z) (n (l (.pure 3 (.vv 3) (.cell 4 0))) z z z)), [.code (C 73 [1, 1, 1, 1, 1, 0, 1, 0, 0]), .inLoop (C 73 [1, 1, 1, 1, 1, 0, 1, 0, 0]), .inBlock 0, .code (C 73 [1, 1, 1, 1, 1, 1])], [], .run, false, none⟩, [], ⟨3, 5, 4, (l (.arr 3 (.vv 2) 0))⟩⟩
noncomputable def s2 : SMach := ⟨⟨73, 124, (m (.pure 3 (.vv 0) (.cell 6 0)) (m (.pure 3 (.vv 1) (.cell 7 0)) z (l (.int .i64 (.iv 3))) z z) (n (l (.int .i64 (.sub (.len (.vv 1)) (.il 1)))) (l (.int .i64 (.iv 0))) z z) (n (l (.view 0)) (l (.int .i64 (.iv 1))) z z) (n (l (.pure 3 (.vv 4) (.cell 8 0))) (l (.int .i64 (.iv 2))) z z)), [.code (C 73 [1, 1, 1, 1, 1, 0, 1, 0, 0, 1, 0, 0, 1, 1, 0, 1, 0, 0]), .inLoop (C 73 [1, 1, 1, 1, 1, 0, 1, 0, 0, 1, 0, 0, 1, 1, 0, 1, 0, 0]), .inBlock 2, .code (C 73 [1, 1, 1, 1, 1, 0, 1, 0, 0, 1, 0, 0, 1, 1, 1]), .inBlock 1, .code (C 73 [1, 1, 1, 1, 1, 0, 1, 0, 0, 1, 1]), .inLoop (C 73 [1, 1, 1, 1, 1, 0, 1, 0, 0]), .inBlock 0, .code (C 73 [1, 1, 1, 1, 1, 1])], [], .run, false, none⟩, [], ⟨5, 9, 5, (l (.arr 3 (.vv 3) 0))⟩⟩
noncomputable def s3 : SMach := ⟨⟨73, 124, (m (.pure 3 (.vv 0) (.cell 9 0)) (m (.pure 3 (.vv 1) (.cell 10 0)) (n (n (l (.int .i64 (.iv 2))) z z z) z z z) (m (.int .i64 (.iv 9)) (n (l (.int .i64 (.iv 6))) z z z) z z z) (l (.int .i64 (.iv 0))) z) (n (m (.int .i64 (.sub (.len (.vv 1)) (.il 1))) (n (l (.int .i64 (.iv 3))) z z z) z z z) (n (n (l (.int .i64 (.iv 7))) z z z) z z z) (l (.int .i64 (.iv 1))) z) (n (m (.view 0) (n (l (.int .i64 (.iv 4))) z z z) z z z) (n (n (l (.int .i64 (.iv 8))) z z z) z z z) z z) (n (m (.pure 3 (.vv 4) (.cell 11 0)) (n (l (.int .i64 (.iv 5))) z z z) z z z) z z z)), [.code (C 73 [1, 1, 1, 1, 1, 0, 1, 0, 0, 1, 0, 0, 1, 1, 1, 1, 0, 0, 0]), .inLoop (C 73 [1, 1, 1, 1, 1, 0, 1, 0, 0, 1, 0, 0, 1, 1, 1, 1, 0, 0, 0]), .inBlock 4, .code (C 73 [1, 1, 1, 1, 1, 0, 1, 0, 0, 1, 0, 0, 1, 1, 1, 1, 1]), .inBlock 1, .code (C 73 [1, 1, 1, 1, 1, 0, 1, 0, 0, 1, 1]), .inLoop (C 73 [1, 1, 1, 1, 1, 0, 1, 0, 0]), .inBlock 0, .code (C 73 [1, 1, 1, 1, 1, 1])], [], .run, false, none⟩, [], ⟨5, 12, 5, (l (.arr 3 (.vv 3) 0))⟩⟩
theorem p0 : last K 73 30 [true] s0 = some ((.snoc (.snoc .emp .nil) (.app .emp (.vv 0))), [.ask (.and (.le (.il (-9223372036854775808)) (.sub (.len (.vv 1)) (.il 1))) (.le (.sub (.len (.vv 1)) (.il 1)) (.il 9223372036854775807))), .ask (.le (.len (.vv 0)) (.sub (.len (.vv 1)) (.il 1))), .ask (.le (.add (.il 0) (.len (.vv 0))) (.il 8796093021696))]) := by kernel_rfl
theorem p1 : stretch K 53 [false] s0 s1 [2] ⟨[(.sub (.len (.rep (.sub (.len (.vv 0)) (.sub (.len (.vv 1)) (.il 1))) (.ofI (.il 0)))) (.il 1))], [], [(.vv 0), (.vv 1), (.rep (.sub (.len (.vv 0)) (.sub (.len (.vv 1)) (.il 1))) (.ofI (.il 0))), (.app .emp (.cut (.vv 0) (.sub (.len (.vv 0)) (.sub (.len (.vv 1)) (.il 1))) (.len (.vv 0))))], [(.cell 0 0), (.cell 1 0), (.cell 0 0), (.cell 1 0), (.cell 2 0)]⟩ [(0, (some 0))] = some (s1, [.ask (.and (.le (.il (-9223372036854775808)) (.sub (.len (.vv 1)) (.il 1))) (.le (.sub (.len (.vv 1)) (.il 1)) (.il 9223372036854775807))), .ask (.not (.le (.len (.vv 0)) (.sub (.len (.vv 1)) (.il 1)))), .ask (.and (.le (.il (-9223372036854775808)) (.sub (.len (.vv 0)) (.sub (.len (.vv 1)) (.il 1)))) (.le (.sub (.len (.vv 0)) (.sub (.len (.vv 1)) (.il 1))) (.il 9223372036854775807))), .ask (.and (.le (.il 0) (.sub (.len (.vv 0)) (.sub (.len (.vv 1)) (.il 1)))) (.le (.sub (.len (.vv 0)) (.sub (.len (.vv 1)) (.il 1))) (.il 17592186044416))), .ask (.and (.le (.il (-9223372036854775808)) (.sub (.len (.vv 0)) (.sub (.len (.vv 1)) (.il 1)))) (.le (.sub (.len (.vv 0)) (.sub (.len (.vv 1)) (.il 1))) (.il 9223372036854775807))), .ask (.and (.le (.il 0) (.sub (.len (.vv 0)) (.sub (.len (.vv 1)) (.il 1)))) (.le (.sub (.len (.vv 0)) (.sub (.len (.vv 1)) (.il 1))) (.len (.vv 0)))), .ask (.le (.len (.vv 0)) (.len (.vv 0))), .ask (.le (.add (.il 0) (.len (.cut (.vv 0) (.sub (.len (.vv 0)) (.sub (.len (.vv 1)) (.il 1))) (.len (.vv 0))))) (.il 8796093021696)), .ask (.and (.le (.il (-9223372036854775808)) (.sub (.len (.rep (.sub (.len (.vv 0)) (.sub (.len (.vv 1)) (.il 1))) (.ofI (.il 0)))) (.il 1))) (.le (.sub (.len (.rep (.sub (.len (.vv 0)) (.sub (.len (.vv 1)) (.il 1))) (.ofI (.il 0)))) (.il 1)) (.il 9223372036854775807)))]) := by kernel_rfl
theorem p2 : stretch K 36 [true] s1 s2 [] ⟨[(.il 0), (.il 0), (.add (.sub (.len (.vv 1)) (.il 1)) (.il 1)), (.iv 0)], [], [(.vv 0), (.vv 1), (.vv 2), (.vv 2), (.vv 4)], [(.cell 0 0), (.cell 1 0), (.cell 2 0), (.cell 3 0), (.cell 4 0), (.cell 5 0), (.cell 2 0), (.cell 3 0), (.cell 6 0)]⟩ [(0, (some 0))] = some (s2, [.ask (.le (.il 0) (.iv 0)), .ask (.and (.le (.il 0) (.iv 0)) (.lt (.iv 0) (.len (.vv 0)))), .ask (.le (.add (.il 1) (.len (.vv 3))) (.il 8796093021696)), .call 75 [(.app (.snoc .emp (.ofI (.toI (.get (.vv 0) (.iv 0))))) (.vv 3))], .ask (.and (.le (.il (-9223372036854775808)) (.add (.sub (.len (.vv 1)) (.il 1)) (.il 1))) (.le (.add (.sub (.len (.vv 1)) (.il 1)) (.il 1)) (.il 9223372036854775807)))]) := by kernel_rfl
theorem p3 : last K 73 17 [false] s1 = some ((.snoc (.snoc .emp (.vv 4)) (.vv 3)), [.ask (.not (.le (.il 0) (.iv 0))), .call 75 [(.vv 2)]]) := by kernel_rfl
theorem p4 : stretch K 61 [true, true, true] s2 s2 [] ⟨[(.add (.mul (.iv 0) (.il 10000)) (.toI (.get (.vv 1) (.iv 2)))), (.add (.mul (.iv 1) (.il 10000)) (.toI (.get (.vv 4) (.iv 2)))), (.sub (.iv 2) (.il 1)), (.iv 3)], [], [(.vv 0), (.vv 1), (.vv 2), (.vv 3), (.vv 4)], [(.cell 0 0), (.cell 1 0), (.cell 2 0), (.cell 3 0), (.cell 4 0), (.cell 5 0), (.cell 6 0), (.cell 7 0), (.cell 8 0)]⟩ [(0, (some 0))] = some (s2, [.ask (.and (.le (.il (-9223372036854775808)) (.sub (.sub (.len (.vv 1)) (.il 1)) (.il 1))) (.le (.sub (.sub (.len (.vv 1)) (.il 1)) (.il 1)) (.il 9223372036854775807))), .ask (.le (.max (.il 0) (.sub (.sub (.len (.vv 1)) (.il 1)) (.il 1))) (.iv 2)), .ask (.and (.le (.il (-9223372036854775808)) (.mul (.iv 1) (.il 10000))) (.le (.mul (.iv 1) (.il 10000)) (.il 9223372036854775807))), .ask (.lt (.iv 2) (.len (.vv 4))), .ask (.and (.le (.il 0) (.iv 2)) (.lt (.iv 2) (.len (.vv 4)))), .ask (.and (.le (.il (-9223372036854775808)) (.add (.mul (.iv 1) (.il 10000)) (.toI (.get (.vv 4) (.iv 2))))) (.le (.add (.mul (.iv 1) (.il 10000)) (.toI (.get (.vv 4) (.iv 2)))) (.il 9223372036854775807))), .ask (.le (.iv 2) (.sub (.len (.vv 1)) (.il 1))), .ask (.and (.le (.il (-9223372036854775808)) (.mul (.iv 0) (.il 10000))) (.le (.mul (.iv 0) (.il 10000)) (.il 9223372036854775807))), .ask (.and (.le (.il 0) (.iv 2)) (.lt (.iv 2) (.len (.vv 1)))), .ask (.and (.le (.il (-9223372036854775808)) (.add (.mul (.iv 0) (.il 10000)) (.toI (.get (.vv 1) (.iv 2))))) (.le (.add (.mul (.iv 0) (.il 10000)) (.toI (.get (.vv 1) (.iv 2)))) (.il 9223372036854775807))), .ask (.and (.le (.il (-9223372036854775808)) (.sub (.iv 2) (.il 1))) (.le (.sub (.iv 2) (.il 1)) (.il 9223372036854775807)))]) := by kernel_rfl
theorem p5 : stretch K 52 [true, true, false] s2 s2 [] ⟨[(.iv 0), (.add (.mul (.iv 1) (.il 10000)) (.toI (.get (.vv 4) (.iv 2)))), (.sub (.iv 2) (.il 1)), (.iv 3)], [], [(.vv 0), (.vv 1), (.vv 2), (.vv 3), (.vv 4)], [(.cell 0 0), (.cell 1 0), (.cell 2 0), (.cell 3 0), (.cell 4 0), (.cell 5 0), (.cell 6 0), (.cell 7 0), (.cell 8 0)]⟩ [(0, (some 0))] = some (s2, [.ask (.and (.le (.il (-9223372036854775808)) (.sub (.sub (.len (.vv 1)) (.il 1)) (.il 1))) (.le (.sub (.sub (.len (.vv 1)) (.il 1)) (.il 1)) (.il 9223372036854775807))), .ask (.le (.max (.il 0) (.sub (.sub (.len (.vv 1)) (.il 1)) (.il 1))) (.iv 2)), .ask (.and (.le (.il (-9223372036854775808)) (.mul (.iv 1) (.il 10000))) (.le (.mul (.iv 1) (.il 10000)) (.il 9223372036854775807))), .ask (.lt (.iv 2) (.len (.vv 4))), .ask (.and (.le (.il 0) (.iv 2)) (.lt (.iv 2) (.len (.vv 4)))), .ask (.and (.le (.il (-9223372036854775808)) (.add (.mul (.iv 1) (.il 10000)) (.toI (.get (.vv 4) (.iv 2))))) (.le (.add (.mul (.iv 1) (.il 10000)) (.toI (.get (.vv 4) (.iv 2)))) (.il 9223372036854775807))), .ask (.not (.le (.iv 2) (.sub (.len (.vv 1)) (.il 1)))), .ask (.and (.le (.il (-9223372036854775808)) (.sub (.iv 2) (.il 1))) (.le (.sub (.iv 2) (.il 1)) (.il 9223372036854775807)))]) := by kernel_rfl
theorem p6 : stretch K 53 [true, false, true] s2 s2 [] ⟨[(.add (.mul (.iv 0) (.il 10000)) (.toI (.get (.vv 1) (.iv 2)))), (.mul (.iv 1) (.il 10000)), (.sub (.iv 2) (.il 1)), (.iv 3)], [], [(.vv 0), (.vv 1), (.vv 2), (.vv 3), (.vv 4)], [(.cell 0 0), (.cell 1 0), (.cell 2 0), (.cell 3 0), (.cell 4 0), (.cell 5 0), (.cell 6 0), (.cell 7 0), (.cell 8 0)]⟩ [(0, (some 0))] = some (s2, [.ask (.and (.le (.il (-9223372036854775808)) (.sub (.sub (.len (.vv 1)) (.il 1)) (.il 1))) (.le (.sub (.sub (.len (.vv 1)) (.il 1)) (.il 1)) (.il 9223372036854775807))), .ask (.le (.max (.il 0) (.sub (.sub (.len (.vv 1)) (.il 1)) (.il 1))) (.iv 2)), .ask (.and (.le (.il (-9223372036854775808)) (.mul (.iv 1) (.il 10000))) (.le (.mul (.iv 1) (.il 10000)) (.il 9223372036854775807))), .ask (.not (.lt (.iv 2) (.len (.vv 4)))), .ask (.le (.iv 2) (.sub (.len (.vv 1)) (.il 1))), .ask (.and (.le (.il (-9223372036854775808)) (.mul (.iv 0) (.il 10000))) (.le (.mul (.iv 0) (.il 10000)) (.il 9223372036854775807))), .ask (.and (.le (.il 0) (.iv 2)) (.lt (.iv 2) (.len (.vv 1)))), .ask (.and (.le (.il (-9223372036854775808)) (.add (.mul (.iv 0) (.il 10000)) (.toI (.get (.vv 1) (.iv 2))))) (.le (.add (.mul (.iv 0) (.il 10000)) (.toI (.get (.vv 1) (.iv 2)))) (.il 9223372036854775807))), .ask (.and (.le (.il (-9223372036854775808)) (.sub (.iv 2) (.il 1))) (.le (.sub (.iv 2) (.il 1)) (.il 9223372036854775807)))]) := by kernel_rfl
theorem p7 : stretch K 44 [true, false, false] s2 s2 [] ⟨[(.iv 0), (.mul (.iv 1) (.il 10000)), (.sub (.iv 2) (.il 1)), (.iv 3)], [], [(.vv 0), (.vv 1), (.vv 2), (.vv 3), (.vv 4)], [(.cell 0 0), (.cell 1 0), (.cell 2 0), (.cell 3 0), (.cell 4 0), (.cell 5 0), (.cell 6 0), (.cell 7 0), (.cell 8 0)]⟩ [(0, (some 0))] = some (s2, [.ask (.and (.le (.il (-9223372036854775808)) (.sub (.sub (.len (.vv 1)) (.il 1)) (.il 1))) (.le (.sub (.sub (.len (.vv 1)) (.il 1)) (.il 1)) (.il 9223372036854775807))), .ask (.le (.max (.il 0) (.sub (.sub (.len (.vv 1)) (.il 1)) (.il 1))) (.iv 2)), .ask (.and (.le (.il (-9223372036854775808)) (.mul (.iv 1) (.il 10000))) (.le (.mul (.iv 1) (.il 10000)) (.il 9223372036854775807))), .ask (.not (.lt (.iv 2) (.len (.vv 4)))), .ask (.not (.le (.iv 2) (.sub (.len (.vv 1)) (.il 1)))), .ask (.and (.le (.il (-9223372036854775808)) (.sub (.iv 2) (.il 1))) (.le (.sub (.iv 2) (.il 1)) (.il 9223372036854775807)))]) := by kernel_rfl
theorem p8 : stretch K 26 [false] s2 s3 [] ⟨[(.quo (.iv 1) (.add (.iv 0) (.il 1))), (.quo (.iv 1) (.iv 0)), (.iv 1), (.iv 0), (.add (.iv 0) (.il 1)), (.quo (.iv 1) (.add (.iv 0) (.il 1))), (.iv 1), (.iv 0), (.quo (.iv 1) (.iv 0)), (.iv 3)], [], [(.vv 0), (.vv 1), (.vv 2), (.vv 3), (.vv 4)], [(.cell 0 0), (.cell 1 0), (.cell 2 0), (.cell 3 0), (.cell 4 0), (.cell 5 0), (.cell 6 0), (.cell 7 0), (.cell 8 0), (.cell 6 0), (.cell 7 0), (.cell 8 0)]⟩ [(0, (some 0))] = some (s3, [.ask (.and (.le (.il (-9223372036854775808)) (.sub (.sub (.len (.vv 1)) (.il 1)) (.il 1))) (.le (.sub (.sub (.len (.vv 1)) (.il 1)) (.il 1)) (.il 9223372036854775807))), .ask (.not (.le (.max (.il 0) (.sub (.sub (.len (.vv 1)) (.il 1)) (.il 1))) (.iv 2))), .ask (.and (.le (.il (-9223372036854775808)) (.add (.iv 0) (.il 1))) (.le (.add (.iv 0) (.il 1)) (.il 9223372036854775807))), .ask (.not (.eq (.add (.iv 0) (.il 1)) (.il 0))), .ask (.and (.le (.il (-9223372036854775808)) (.quo (.iv 1) (.add (.iv 0) (.il 1)))) (.le (.quo (.iv 1) (.add (.iv 0) (.il 1))) (.il 9223372036854775807))), .ask (.not (.eq (.iv 0) (.il 0))), .ask (.and (.le (.il (-9223372036854775808)) (.quo (.iv 1) (.iv 0))) (.le (.quo (.iv 1) (.iv 0)) (.il 9223372036854775807)))]) := by kernel_rfl
theorem p9 : stretch K 36 [true, true] s3 s3 [] ⟨[(.quo (.add (.add (.iv 0) (.iv 1)) (.il 1)) (.il 2)), (.iv 1), (.iv 2), (.iv 3), (.iv 4), (.iv 5), (.iv 6), (.iv 7), (.iv 8), (.iv 9)], [], [(.vv 0), (.vv 1), (.vv 2), (.vv 3), (.vv 4)], [(.cell 0 0), (.cell 1 0), (.cell 2 0), (.cell 3 0), (.cell 4 0), (.cell 5 0), (.cell 6 0), (.cell 7 0), (.cell 8 0), (.cell 9 0), (.cell 10 0), (.cell 11 0)]⟩ [(0, (some 0))] = some (s3, [.ask (.lt (.iv 0) (.iv 1)), .ask (.and (.le (.il (-9223372036854775808)) (.add (.iv 0) (.iv 1))) (.le (.add (.iv 0) (.iv 1)) (.il 9223372036854775807))), .ask (.and (.le (.il (-9223372036854775808)) (.add (.add (.iv 0) (.iv 1)) (.il 1))) (.le (.add (.add (.iv 0) (.iv 1)) (.il 1)) (.il 9223372036854775807))), .ask (.and (.le (.il (-9223372036854775808)) (.quo (.add (.add (.iv 0) (.iv 1)) (.il 1)) (.il 2))) (.le (.quo (.add (.add (.iv 0) (.iv 1)) (.il 1)) (.il 2)) (.il 9223372036854775807))), .call 59 [(.vv 1), (.snoc .emp (.ofI (.quo (.add (.add (.iv 0) (.iv 1)) (.il 1)) (.il 2))))], .call 55 [(.vv 5), (.vv 4)], .ask (.le (.toI (.vv 6)) (.il 0))]) := by kernel_rfl
theorem p10 : stretch K 37 [true, false] s3 s3 [] ⟨[(.iv 0), (.sub (.quo (.add (.add (.iv 0) (.iv 1)) (.il 1)) (.il 2)) (.il 1)), (.iv 2), (.iv 3), (.iv 4), (.iv 5), (.iv 6), (.iv 7), (.iv 8), (.iv 9)], [], [(.vv 0), (.vv 1), (.vv 2), (.vv 3), (.vv 4)], [(.cell 0 0), (.cell 1 0), (.cell 2 0), (.cell 3 0), (.cell 4 0), (.cell 5 0), (.cell 6 0), (.cell 7 0), (.cell 8 0), (.cell 9 0), (.cell 10 0), (.cell 11 0)]⟩ [(0, (some 0))] = some (s3, [.ask (.lt (.iv 0) (.iv 1)), .ask (.and (.le (.il (-9223372036854775808)) (.add (.iv 0) (.iv 1))) (.le (.add (.iv 0) (.iv 1)) (.il 9223372036854775807))), .ask (.and (.le (.il (-9223372036854775808)) (.add (.add (.iv 0) (.iv 1)) (.il 1))) (.le (.add (.add (.iv 0) (.iv 1)) (.il 1)) (.il 9223372036854775807))), .ask (.and (.le (.il (-9223372036854775808)) (.quo (.add (.add (.iv 0) (.iv 1)) (.il 1)) (.il 2))) (.le (.quo (.add (.add (.iv 0) (.iv 1)) (.il 1)) (.il 2)) (.il 9223372036854775807))), .call 59 [(.vv 1), (.snoc .emp (.ofI (.quo (.add (.add (.iv 0) (.iv 1)) (.il 1)) (.il 2))))], .call 55 [(.vv 5), (.vv 4)], .ask (.not (.le (.toI (.vv 6)) (.il 0))), .ask (.and (.le (.il (-9223372036854775808)) (.sub (.quo (.add (.add (.iv 0) (.iv 1)) (.il 1)) (.il 2)) (.il 1))) (.le (.sub (.quo (.add (.add (.iv 0) (.iv 1)) (.il 1)) (.il 2)) (.il 1)) (.il 9223372036854775807)))]) := by kernel_rfl
theorem p11 : stretch K 34 [false] s3 s1 [] ⟨[(.sub (.iv 9) (.il 1))], [], [(.vv 0), (.vv 1), (.set (.vv 3) (.iv 9) (.ofI (.iv 0))), (.vv 7)], [(.cell 0 0), (.cell 1 0), (.cell 9 0), (.cell 10 0), (.cell 15 0)]⟩ [(0, (some 0))] = some (s1, [.ask (.not (.lt (.iv 0) (.iv 1))), .ask (.and (.le (.il 0) (.iv 9)) (.lt (.iv 9) (.len (.vv 3)))), .ask (.and (.le (.il 0) (.iv 9)) (.lt (.iv 9) (.len (.vv 3)))), .call 75 [(.snoc .emp (.ofI (.iv 0)))], .call 59 [(.vv 1), (.vv 5)], .call 61 [(.vv 4), (.vv 6)], .ask (.and (.le (.il (-9223372036854775808)) (.sub (.iv 9) (.il 1))) (.le (.sub (.iv 9) (.il 1)) (.il 9223372036854775807)))]) := by kernel_rfl
theorem b : sbegin prog 73 = some s0 := by kernel_rfl
end ref01_divide
end X
namespace X
open Go Go.Abs Go.Sym
set_option linter.unusedVariables false
/-! haruspex/haruspexref01.gcd -/
namespace ref01_gcd
abbrev f : Nat := 56
noncomputable def K : Cfg := ⟨prog, pl, [], [73], []⟩
noncomputable def s0 : SMach := ⟨⟨56, 19, (m (.pure 3 (.vv 0) (.cell 0 0)) (l (.pure 3 (.vv 1) (.cell 1 0))) z z z), [.code (C 56 [])], [], .run, false, none⟩, [], ⟨0, 2, 2, z⟩⟩
noncomputable def s1 : SMach := ⟨⟨56, 19, (m (.pure 3 (.vv 2) (.cell 2 0)) (l (.pure 3 (.vv 3) (.cell 3 0))) z z z), [.code (C 56 [1, 0, 0, 0]), .inLoop (C 56 [1, 0, 0, 0]), .inBlock 0, .code (C 56 [1, 1])], [], .run, false, none⟩, [], ⟨0, 4, 4, z⟩⟩
theorem p0 : stretch K 7 [] s0 s1 [] ⟨[], [], [(.vv 0), (.vv 1), (.vv 0), (.vv 1)], [(.cell 0 0), (.cell 1 0), (.cell 0 0), (.cell 1 0)]⟩ [] = some (s1, []) := by kernel_rfl
theorem p1 : stretch K 32 [true] s1 s1 [] ⟨[], [], [(.vv 0), (.vv 1), (.vv 3), (.get (.vv 4) (.il 1))], [(.cell 0 0), (.cell 1 0), (.cell 3 0), (.cell 4 1)]⟩ [] = some (s1, [.ask (.lt (.il 0) (.len (.vv 3))), .call 73 [(.vv 2), (.vv 3)]]) := by kernel_rfl
theorem p2 : last K 56 15 [false] s1 = some ((.vv 2), [.ask (.not (.lt (.il 0) (.len (.vv 3))))]) := by kernel_rfl
theorem b : sbegin prog 56 = some s0 := by kernel_rfl
end ref01_gcd
end X
namespace X
open Go Go.Abs Go.Sym
set_option linter.unusedVariables false
/-! haruspex/haruspexref01.value -/
namespace ref01_value
abbrev f : Nat := 74
noncomputable def K : Cfg := ⟨prog, pl, [], [57, 55], []⟩
noncomputable def s0 : SMach := ⟨⟨74, 25, (l (.pure 3 (.vv 0) (.cell 0 0))), [.code (C 74 [])], [], .run, false, none⟩, [], ⟨0, 1, 1, z⟩⟩
noncomputable def s1 : SMach := ⟨⟨74, 25, (m (.pure 3 (.vv 0) (.cell 3 0)) (n (l (.int .i64 (.iv 1))) z z z) z z (l (.int .i64 (.iv 0)))), [.code (C 74 [1, 1, 1, 0, 1, 0, 0]), .inLoop (C 74 [1, 1, 1, 0, 1, 0, 0]), .inBlock 0, .code (C 74 [1, 1, 1, 1])], [], .run, false, none⟩, [], ⟨0, 4, 3, z⟩⟩
theorem p0 : last K 74 20 [true] s0 = some ((.snoc (.snoc .emp (.ofI (.il 0))) (.ofB (.bl false))), [.call 57 [(.ofI (.il 4611686018427387903))], .call 55 [(.vv 0), (.vv 1)], .ask (.lt (.il 0) (.toI (.vv 2)))]) := by kernel_rfl
theorem p1 : stretch K 29 [false] s0 s1 [] ⟨[(.il 0), (.sub (.len (.vv 0)) (.il 1))], [], [(.vv 0), (.vv 1), (.vv 2)], [(.cell 0 0), (.cell 1 0), (.cell 2 0), (.cell 0 0)]⟩ [] = some (s1, [.call 57 [(.ofI (.il 4611686018427387903))], .call 55 [(.vv 0), (.vv 1)], .ask (.not (.lt (.il 0) (.toI (.vv 2)))), .ask (.and (.le (.il (-9223372036854775808)) (.sub (.len (.vv 0)) (.il 1))) (.le (.sub (.len (.vv 0)) (.il 1)) (.il 9223372036854775807)))]) := by kernel_rfl
theorem p2 : stretch K 27 [true] s1 s1 [] ⟨[(.add (.mul (.il 10000) (.iv 0)) (.toI (.get (.vv 0) (.iv 1)))), (.sub (.iv 1) (.il 1))], [], [(.vv 0), (.vv 1), (.vv 2)], [(.cell 0 0), (.cell 1 0), (.cell 2 0), (.cell 3 0)]⟩ [] = some (s1, [.ask (.le (.il 0) (.iv 1)), .ask (.and (.le (.il (-9223372036854775808)) (.mul (.il 10000) (.iv 0))) (.le (.mul (.il 10000) (.iv 0)) (.il 9223372036854775807))), .ask (.and (.le (.il 0) (.iv 1)) (.lt (.iv 1) (.len (.vv 0)))), .ask (.and (.le (.il (-9223372036854775808)) (.add (.mul (.il 10000) (.iv 0)) (.toI (.get (.vv 0) (.iv 1))))) (.le (.add (.mul (.il 10000) (.iv 0)) (.toI (.get (.vv 0) (.iv 1)))) (.il 9223372036854775807))), .ask (.and (.le (.il (-9223372036854775808)) (.sub (.iv 1) (.il 1))) (.le (.sub (.iv 1) (.il 1)) (.il 9223372036854775807)))]) := by kernel_rfl
theorem p3 : last K 74 15 [false] s1 = some ((.snoc (.snoc .emp (.ofI (.iv 0))) (.ofB (.bl true))), [.ask (.not (.le (.il 0) (.iv 1)))]) := by kernel_rfl
theorem b : sbegin prog 74 = some s0 := by kernel_rfl
end ref01_value
end X
namespace X
open Go Go.Abs Go.Sym
set_option linter.unusedVariables false
/-! haruspex/haruspexref01.made -/
namespace ref01_made
abbrev f : Nat := 58
noncomputable def K : Cfg := ⟨prog, pl, [], [56, 73, 74], []⟩
noncomputable def s0 : SMach := ⟨⟨58, 51, (m (.bool (.toB (.vv 0))) (l (.pure 3 (.vv 1) (.cell 1 0))) (l (.pure 3 (.vv 2) (.cell 2 0))) z z), [.code (C 58 [])], [], .run, false, none⟩, [], ⟨0, 3, 3, z⟩⟩
theorem p0 : last K 58 70 [true] s0 = some ((.snoc (.snoc .emp (.snoc (.snoc .emp (.ofI (.il 0))) (.ofI (.il 0)))) (.ofB (.bl false))), [.call 56 [(.vv 1), (.vv 2)], .call 73 [(.vv 1), (.vv 3)], .call 73 [(.vv 2), (.vv 3)], .call 74 [(.get (.vv 4) (.il 0))], .call 74 [(.get (.vv 5) (.il 0))], .ask (.not (.toB (.get (.vv 6) (.il 1))))]) := by kernel_rfl
theorem p1 : last K 58 70 [false, true] s0 = some ((.snoc (.snoc .emp (.snoc (.snoc .emp (.ofI (.il 0))) (.ofI (.il 0)))) (.ofB (.bl false))), [.call 56 [(.vv 1), (.vv 2)], .call 73 [(.vv 1), (.vv 3)], .call 73 [(.vv 2), (.vv 3)], .call 74 [(.get (.vv 4) (.il 0))], .call 74 [(.get (.vv 5) (.il 0))], .ask (.not (.not (.toB (.get (.vv 6) (.il 1))))), .ask (.not (.toB (.get (.vv 7) (.il 1))))]) := by kernel_rfl
theorem p2 : last K 58 84 [false, false, true] s0 = some ((.snoc (.snoc .emp (.snoc (.snoc .emp (.ofI (.sub (.il 0) (.toI (.get (.vv 6) (.il 0)))))) (.ofI (.toI (.get (.vv 7) (.il 0)))))) (.ofB (.bl true))), [.call 56 [(.vv 1), (.vv 2)], .call 73 [(.vv 1), (.vv 3)], .call 73 [(.vv 2), (.vv 3)], .call 74 [(.get (.vv 4) (.il 0))], .call 74 [(.get (.vv 5) (.il 0))], .ask (.not (.not (.toB (.get (.vv 6) (.il 1))))), .ask (.not (.not (.toB (.get (.vv 7) (.il 1))))), .ask (.toB (.vv 0)), .ask (.and (.le (.il (-9223372036854775808)) (.sub (.il 0) (.toI (.get (.vv 6) (.il 0))))) (.le (.sub (.il 0) (.toI (.get (.vv 6) (.il 0)))) (.il 9223372036854775807)))]) := by kernel_rfl
theorem p3 : last K 58 80 [false, false, false] s0 = some ((.snoc (.snoc .emp (.snoc (.snoc .emp (.ofI (.toI (.get (.vv 6) (.il 0))))) (.ofI (.toI (.get (.vv 7) (.il 0)))))) (.ofB (.bl true))), [.call 56 [(.vv 1), (.vv 2)], .call 73 [(.vv 1), (.vv 3)], .call 73 [(.vv 2), (.vv 3)], .call 74 [(.get (.vv 4) (.il 0))], .call 74 [(.get (.vv 5) (.il 0))], .ask (.not (.not (.toB (.get (.vv 6) (.il 1))))), .ask (.not (.not (.toB (.get (.vv 7) (.il 1))))), .ask (.not (.toB (.vv 0)))]) := by kernel_rfl
theorem b : sbegin prog 58 = some s0 := by kernel_rfl
end ref01_made
end X
namespace X
open Go Go.Abs Go.Sym
set_option linter.unusedVariables false
/-! haruspex/haruspexref01.Make -/
namespace ref01_Make
abbrev f : Nat := 54
noncomputable def K : Cfg := ⟨prog, pl, [], [58, 57], []⟩
noncomputable def s0 : SMach := ⟨⟨54, 18, (m (.int .i64 (.toI (.vv 0))) (l (.int .i64 (.toI (.vv 1)))) z z z), [.code (C 54 [])], [], .run, false, none⟩, [], ⟨0, 2, 2, z⟩⟩
theorem p0 : last K 54 23 [] s0 = some ((.snoc (.snoc .emp (.snoc (.snoc .emp (.ofI (.toI (.get (.get (.vv 4) (.il 0)) (.il 0))))) (.ofI (.toI (.get (.get (.vv 4) (.il 0)) (.il 1)))))) (.ofB (.toB (.get (.vv 4) (.il 1))))), [.call 57 [(.ofI (.toI (.vv 0)))], .call 57 [(.ofI (.toI (.vv 1)))], .call 58 [(.ofB (.not (.beq (.lt (.toI (.vv 0)) (.il 0)) (.lt (.toI (.vv 1)) (.il 0))))), (.vv 2), (.vv 3)]]) := by kernel_rfl
theorem b : sbegin prog 54 = some s0 := by kernel_rfl
end ref01_Make
end X
namespace X
open Go Go.Abs Go.Sym
set_option linter.unusedVariables false
/-! haruspex/haruspexref01.Of -/
namespace ref01_Of
abbrev f : Nat := 27
noncomputable def K : Cfg := ⟨prog, pl, [], [54], []⟩
noncomputable def s0 : SMach := ⟨⟨27, 14, (m (.int .i64 (.toI (.vv 0))) (l (.int .i64 (.toI (.vv 1)))) z z z), [.code (C 27 [])], [], .run, false, none⟩, [], ⟨0, 2, 2, z⟩⟩
theorem p0 : last K 27 22 [] s0 = some ((.snoc (.snoc .emp (.ofI (.toI (.get (.get (.vv 2) (.il 0)) (.il 0))))) (.ofI (.toI (.get (.get (.vv 2) (.il 0)) (.il 1))))), [.call 54 [(.ofI (.toI (.vv 0))), (.ofI (.toI (.vv 1)))]]) := by kernel_rfl
theorem b : sbegin prog 27 = some s0 := by kernel_rfl
end ref01_Of
end X
namespace X
open Go Go.Abs Go.Sym
set_option linter.unusedVariables false
/-! haruspex/frac.Make -/
namespace frac_Make
abbrev f : Nat := 42
noncomputable def K : Cfg := ⟨prog, pl, [], [66, 67], []⟩
noncomputable def s0 : SMach := ⟨⟨42, 19, (m (.int .i64 (.toI (.vv 0))) (l (.int .i64 (.toI (.vv 1)))) z z z), [.code (C 42 [])], [], .run, false, none⟩, [], ⟨0, 2, 2, z⟩⟩
theorem p4 : last K 42 207 [false, true, false, false, false] s0 = some ((.snoc (.snoc .emp (.snoc (.snoc .emp (.ofI (.quo (.toI (.vv 5)) (.toI (.vv 4))))) (.ofI (.quo (.toI (.vv 6)) (.toI (.vv 4)))))) (.ofI (.il 0))), [.ask (.not (.eq (.toI (.vv 1)) (.il 0))), .call 67 [(.ofI (.toI (.vv 0)))], .call 67 [(.ofI (.toI (.vv 1)))], .call 66 [(.ofI (.toI (.vv 2))), (.ofI (.toI (.vv 3)))], .ask (.not (.eq (.toI (.vv 0)) (.il 0))), .call 67 [(.ofI (.toI (.vv 0)))], .ask (.not (.eq (.toI (.vv 4)) (.il 0))), .ask (.and (.le (.il 0) (.quo (.toI (.vv 5)) (.toI (.vv 4)))) (.le (.quo (.toI (.vv 5)) (.toI (.vv 4))) (.il 18446744073709551615))), .call 67 [(.ofI (.toI (.vv 1)))], .ask (.not (.eq (.toI (.vv 4)) (.il 0))), .ask (.and (.le (.il 0) (.quo (.toI (.vv 6)) (.toI (.vv 4)))) (.le (.quo (.toI (.vv 6)) (.toI (.vv 4))) (.il 18446744073709551615))), .ask (.not (.lt (.il 4611686018427387903) (.quo (.toI (.vv 5)) (.toI (.vv 4))))), .ask (.not (.lt (.il 4611686018427387903) (.quo (.toI (.vv 6)) (.toI (.vv 4))))), .ask (.not (.not (.beq (.lt (.toI (.vv 0)) (.il 0)) (.lt (.toI (.vv 1)) (.il 0))))), .ask (.and (.le (.il (-9223372036854775808)) (.quo (.toI (.vv 5)) (.toI (.vv 4)))) (.le (.quo (.toI (.vv 5)) (.toI (.vv 4))) (.il 9223372036854775807))), .ask (.and (.le (.il (-9223372036854775808)) (.quo (.toI (.vv 6)) (.toI (.vv 4)))) (.le (.quo (.toI (.vv 6)) (.toI (.vv 4))) (.il 9223372036854775807)))]) := by kernel_rfl
theorem p7 : last K 42 207 [false, false, false, false] s0 = some ((.snoc (.snoc .emp (.snoc (.snoc .emp (.ofI (.quo (.toI (.vv 5)) (.toI (.vv 4))))) (.ofI (.quo (.toI (.vv 6)) (.toI (.vv 4)))))) (.ofI (.il 0))), [.ask (.not (.eq (.toI (.vv 1)) (.il 0))), .call 67 [(.ofI (.toI (.vv 0)))], .call 67 [(.ofI (.toI (.vv 1)))], .call 66 [(.ofI (.toI (.vv 2))), (.ofI (.toI (.vv 3)))], .ask (.not (.not (.eq (.toI (.vv 0)) (.il 0)))), .call 67 [(.ofI (.toI (.vv 0)))], .ask (.not (.eq (.toI (.vv 4)) (.il 0))), .ask (.and (.le (.il 0) (.quo (.toI (.vv 5)) (.toI (.vv 4)))) (.le (.quo (.toI (.vv 5)) (.toI (.vv 4))) (.il 18446744073709551615))), .call 67 [(.ofI (.toI (.vv 1)))], .ask (.not (.eq (.toI (.vv 4)) (.il 0))), .ask (.and (.le (.il 0) (.quo (.toI (.vv 6)) (.toI (.vv 4)))) (.le (.quo (.toI (.vv 6)) (.toI (.vv 4))) (.il 18446744073709551615))), .ask (.not (.lt (.il 4611686018427387903) (.quo (.toI (.vv 5)) (.toI (.vv 4))))), .ask (.not (.lt (.il 4611686018427387903) (.quo (.toI (.vv 6)) (.toI (.vv 4))))), .ask (.and (.le (.il (-9223372036854775808)) (.quo (.toI (.vv 5)) (.toI (.vv 4)))) (.le (.quo (.toI (.vv 5)) (.toI (.vv 4))) (.il 9223372036854775807))), .ask (.and (.le (.il (-9223372036854775808)) (.quo (.toI (.vv 6)) (.toI (.vv 4)))) (.le (.quo (.toI (.vv 6)) (.toI (.vv 4))) (.il 9223372036854775807)))]) := by kernel_rfl
theorem b : sbegin prog 42 = some s0 := by kernel_rfl
end frac_Make
end X
namespace X
open Go Go.Abs Go.Sym
set_option linter.unusedVariables false
/-! haruspex/lift.valid -/
namespace lift_valid
abbrev f : Nat := 37
noncomputable def K : Cfg := ⟨prog, pl, [], [], []⟩
noncomputable def s0 : SMach := ⟨⟨37, 95, (l (.agg [(.int .i64 (.toI (.get (.vv 0) (.il 0)))), (.int .i64 (.toI (.get (.vv 0) (.il 1)))), (.int .i64 (.toI (.get (.vv 0) (.il 2)))), (.pure 64 (.get (.vv 0) (.il 3)) (.cell 0 3))])), [.code (C 37 [])], [], .run, false, none⟩, [], ⟨0, 1, 1, z⟩⟩
noncomputable def s1 : SMach := ⟨⟨37, 95, (n (m (.addr 0 0) z z (n z z (l (.int .i64 (.len (.get (.vv 0) (.il 3))))) z) z) (n z z (n z z (l (.int .i64 (.iv 0))) z) z) (l (.int .i64 (.len (.get (.get (.vv 0) (.il 3)) (.il 0))))) (n z (n z z (l (.pure 64 (.get (.vv 0) (.il 3)) (.cell 2 0))) z) z z)), [.code (C 37 [1, 1, 1, 1, 0, 1, 0, 0]), .inLoop (C 37 [1, 1, 1, 1, 0, 1, 0, 0]), .inBlock 0, .code (C 37 [1, 1, 1, 1, 1])], [], .run, false, none⟩, [], ⟨1, 3, 1, (l (.cells [(.int .i64 (.toI (.get (.vv 0) (.il 0)))), (.int .i64 (.toI (.get (.vv 0) (.il 1)))), (.int .i64 (.toI (.get (.vv 0) (.il 2)))), (.pure 64 (.get (.vv 0) (.il 3)) (.cell 1 0))]))⟩⟩
noncomputable def s2 : SMach := ⟨⟨37, 95, (n (m (.addr 0 0) (l (.pure 3 (.vv 1) (.cell 4 0))) z (n z z (l (.int .i64 (.len (.get (.vv 0) (.il 3))))) z) z) (n (l (.int .i64 (.iv 0))) z (n z z (l (.int .i64 (.iv 2))) z) (n z z (l (.pure 3 (.vv 2) (.cell 6 0))) z)) (m (.int .i64 (.len (.get (.get (.vv 0) (.il 3)) (.il 0)))) z z z (n z z (l (.int .i64 (.iv 3))) z)) (n z (n z z (l (.pure 64 (.get (.vv 0) (.il 3)) (.cell 5 0))) z) z (n z z (l (.int .i64 (.iv 1))) z))), [.code (C 37 [1, 1, 1, 1, 0, 1, 0, 0, 1, 1, 0, 0, 1, 1, 0, 1, 0, 0]), .inLoop (C 37 [1, 1, 1, 1, 0, 1, 0, 0, 1, 1, 0, 0, 1, 1, 0, 1, 0, 0]), .inBlock 2, .code (C 37 [1, 1, 1, 1, 0, 1, 0, 0, 1, 1, 0, 0, 1, 1, 1]), .inBlock 1, .code (C 37 [1, 1, 1, 1, 0, 1, 0, 0, 1, 1, 1]), .inLoop (C 37 [1, 1, 1, 1, 0, 1, 0, 0]), .inBlock 0, .code (C 37 [1, 1, 1, 1, 1])], [], .run, false, none⟩, [], ⟨1, 7, 3, (l (.cells [(.int .i64 (.toI (.get (.vv 0) (.il 0)))), (.int .i64 (.toI (.get (.vv 0) (.il 1)))), (.int .i64 (.toI (.get (.vv 0) (.il 2)))), (.pure 64 (.get (.vv 0) (.il 3)) (.cell 3 0))]))⟩⟩
theorem p9 : stretch K 81 [false, false, false, false, false, false, false, false, false] s0 s1 [] ⟨[(.il 0)], [], [(.vv 0)], [(.cell 0 0), (.cell 0 3), (.cell 0 3)]⟩ [(0, (some 0))] = some (s1, [.ask (.not (.lt (.toI (.get (.vv 0) (.il 0))) (.il 1))), .ask (.not (.lt (.il 20) (.toI (.get (.vv 0) (.il 0))))), .ask (.not (.lt (.toI (.get (.vv 0) (.il 1))) (.il 1))), .ask (.not (.lt (.il 10) (.toI (.get (.vv 0) (.il 1))))), .ask (.not (.lt (.toI (.get (.vv 0) (.il 2))) (.il 0))), .ask (.not (.lt (.toI (.get (.vv 0) (.il 0))) (.toI (.get (.vv 0) (.il 2))))), .ask (.and (.le (.il (-9223372036854775808)) (.add (.toI (.get (.vv 0) (.il 1))) (.il 1))) (.le (.add (.toI (.get (.vv 0) (.il 1))) (.il 1)) (.il 9223372036854775807))), .ask (.not (.not (.eq (.len (.get (.vv 0) (.il 3))) (.add (.toI (.get (.vv 0) (.il 1))) (.il 1))))), .ask (.lt (.il 0) (.len (.get (.vv 0) (.il 3)))), .ask (.not (.lt (.len (.get (.get (.vv 0) (.il 3)) (.il 0))) (.il 2))), .ask (.not (.lt (.il 4) (.len (.get (.get (.vv 0) (.il 3)) (.il 0)))))]) := by kernel_rfl
theorem p10 : stretch K 28 [true] s1 s2 [] ⟨[(.il 0), (.il 0), (.iv 0), (.len (.get (.get (.vv 0) (.il 3)) (.iv 0)))], [], [(.vv 0), (.get (.get (.vv 0) (.il 3)) (.iv 0)), (.get (.get (.vv 0) (.il 3)) (.iv 0))], [(.cell 0 0), (.cell 1 0), (.cell 2 0), (.cell 1 0), (.el (.cell 2 0) (.iv 0) 1 0), (.cell 2 0), (.el (.cell 2 0) (.iv 0) 1 0)]⟩ [(0, (some 0))] = some (s2, [.ask (.lt (.iv 0) (.len (.get (.vv 0) (.il 3)))), .ask (.and (.le (.il 0) (.iv 0)) (.lt (.iv 0) (.len (.get (.vv 0) (.il 3)))))]) := by kernel_rfl
theorem p11 : last K 37 12 [false] s1 = some ((.ofB (.bl true)), [.ask (.not (.lt (.iv 0) (.len (.get (.vv 0) (.il 3)))))]) := by kernel_rfl
theorem p14 : stretch K 41 [true, false, false] s2 s2 [] ⟨[(.add (.iv 0) (.toI (.get (.vv 2) (.iv 1)))), (.add (.iv 1) (.il 1)), (.iv 2), (.iv 3)], [], [(.vv 0), (.vv 1), (.vv 2)], [(.cell 0 0), (.cell 1 0), (.cell 2 0), (.cell 3 0), (.cell 4 0), (.cell 5 0), (.cell 6 0)]⟩ [(0, (some 0))] = some (s2, [.ask (.lt (.iv 1) (.iv 3)), .ask (.and (.le (.il 0) (.iv 1)) (.lt (.iv 1) (.len (.vv 2)))), .ask (.not (.lt (.toI (.get (.vv 2) (.iv 1))) (.il 0))), .ask (.not (.lt (.toI (.get (.vv 0) (.il 0))) (.toI (.get (.vv 2) (.iv 1))))), .ask (.and (.le (.il (-9223372036854775808)) (.add (.iv 0) (.toI (.get (.vv 2) (.iv 1))))) (.le (.add (.iv 0) (.toI (.get (.vv 2) (.iv 1)))) (.il 9223372036854775807))), .ask (.and (.le (.il (-9223372036854775808)) (.add (.iv 1) (.il 1))) (.le (.add (.iv 1) (.il 1)) (.il 9223372036854775807)))]) := by kernel_rfl
theorem p17 : stretch K 28 [false, false, false] s2 s1 [] ⟨[(.add (.iv 2) (.il 1))], [], [(.vv 0)], [(.cell 0 0), (.cell 3 0), (.cell 5 0)]⟩ [(0, (some 0))] = some (s1, [.ask (.not (.lt (.iv 1) (.iv 3))), .ask (.not (.not (.eq (.len (.vv 1)) (.len (.get (.get (.vv 0) (.il 3)) (.il 0)))))), .ask (.not (.not (.eq (.iv 0) (.toI (.get (.vv 0) (.il 0)))))), .ask (.and (.le (.il (-9223372036854775808)) (.add (.iv 2) (.il 1))) (.le (.add (.iv 2) (.il 1)) (.il 9223372036854775807)))]) := by kernel_rfl
theorem b : sbegin prog 37 = some s0 := by kernel_rfl
end lift_valid
end X
namespace X
open Go Go.Abs Go.Sym
set_option linter.unusedVariables false
/-! haruspex/lift.count -/
namespace lift_count
abbrev f : Nat := 41
noncomputable def K : Cfg := ⟨prog, pl, [], [37], []⟩
noncomputable def s0 : SMach := ⟨⟨41, 53, (m (.agg [(.int .i64 (.toI (.get (.vv 0) (.il 0)))), (.int .i64 (.toI (.get (.vv 0) (.il 1)))), (.int .i64 (.toI (.get (.vv 0) (.il 2)))), (.pure 64 (.get (.vv 0) (.il 3)) (.cell 0 3))]) (l (.int .i64 (.toI (.vv 1)))) (l (.int .i64 (.toI (.vv 2)))) (l (.int .i64 (.toI (.vv 3)))) z), [.code (C 41 [])], [], .run, false, none⟩, [], ⟨0, 4, 4, z⟩⟩
theorem p7 : last K 41 65 [false, false, false, false, false, false, false] s0 = some ((.snoc (.snoc .emp (.snoc (.snoc (.snoc (.snoc .emp (.snoc (.snoc (.snoc (.snoc .emp (.ofI (.toI (.get (.vv 0) (.il 0))))) (.ofI (.toI (.get (.vv 0) (.il 1))))) (.ofI (.toI (.get (.vv 0) (.il 2))))) (.get (.vv 0) (.il 3)))) (.ofI (.toI (.vv 1)))) (.ofI (.toI (.vv 2)))) (.ofI (.toI (.vv 3))))) (.ofI (.il 0))), [.call 37 [(.snoc (.snoc (.snoc (.snoc .emp (.ofI (.toI (.get (.vv 0) (.il 0))))) (.ofI (.toI (.get (.vv 0) (.il 1))))) (.ofI (.toI (.get (.vv 0) (.il 2))))) (.get (.vv 0) (.il 3)))], .ask (.not (.not (.toB (.vv 4)))), .ask (.not (.lt (.toI (.vv 1)) (.il 0))), .ask (.not (.lt (.toI (.vv 2)) (.il 0))), .ask (.not (.lt (.toI (.get (.vv 0) (.il 1))) (.toI (.vv 1)))), .ask (.and (.le (.il (-9223372036854775808)) (.sub (.toI (.get (.vv 0) (.il 1))) (.toI (.vv 1)))) (.le (.sub (.toI (.get (.vv 0) (.il 1))) (.toI (.vv 1))) (.il 9223372036854775807))), .ask (.not (.lt (.sub (.toI (.get (.vv 0) (.il 1))) (.toI (.vv 1))) (.toI (.vv 2)))), .ask (.not (.lt (.toI (.vv 3)) (.il (-1)))), .ask (.lt (.il 0) (.len (.get (.vv 0) (.il 3)))), .ask (.not (.le (.len (.get (.get (.vv 0) (.il 3)) (.il 0))) (.toI (.vv 3))))]) := by kernel_rfl
theorem b : sbegin prog 41 = some s0 := by kernel_rfl
end lift_count
end X
namespace X
open Go Go.Abs Go.Sym
set_option linter.unusedVariables false
/-! haruspex/lift.power -/
namespace lift_power
abbrev f : Nat := 46
noncomputable def K : Cfg := ⟨prog, pl, [], [], []⟩
noncomputable def s0 : SMach := ⟨⟨46, 14, (m (.int .i64 (.toI (.vv 0))) (l (.int .i64 (.toI (.vv 1)))) z z z), [.code (C 46 [])], [], .run, false, none⟩, [], ⟨0, 2, 2, z⟩⟩
noncomputable def s1 : SMach := ⟨⟨46, 14, (m (.int .i64 (.toI (.vv 0))) (n (l (.int .i64 (.iv 0))) z z z) (n (l (.int .i64 (.toI (.vv 1)))) z z z) (n (l (.int .i64 (.iv 1))) z z z) z), [.code (C 46 [1, 1, 0, 1, 0, 0]), .inLoop (C 46 [1, 1, 0, 1, 0, 0]), .inBlock 0, .code (C 46 [1, 1, 1])], [], .run, false, none⟩, [], ⟨0, 2, 2, z⟩⟩
theorem p0 : stretch K 16 [] s0 s1 [] ⟨[(.il 1), (.il 0)], [], [(.vv 0), (.vv 1)], [(.cell 0 0), (.cell 1 0)]⟩ [] = some (s1, []) := by kernel_rfl
theorem p1 : stretch K 21 [true] s1 s1 [] ⟨[(.mul (.iv 0) (.toI (.vv 0))), (.add (.iv 1) (.il 1))], [], [(.vv 0), (.vv 1)], [(.cell 0 0), (.cell 1 0)]⟩ [] = some (s1, [.ask (.lt (.iv 1) (.toI (.vv 1))), .ask (.and (.le (.il (-9223372036854775808)) (.mul (.iv 0) (.toI (.vv 0)))) (.le (.mul (.iv 0) (.toI (.vv 0))) (.il 9223372036854775807))), .ask (.and (.le (.il (-9223372036854775808)) (.add (.iv 1) (.il 1))) (.le (.add (.iv 1) (.il 1)) (.il 9223372036854775807)))]) := by kernel_rfl
theorem p2 : last K 46 13 [false] s1 = some ((.ofI (.iv 0)), [.ask (.not (.lt (.iv 1) (.toI (.vv 1))))]) := by kernel_rfl
theorem b : sbegin prog 46 = some s0 := by kernel_rfl
end lift_power
end X
