/- Texts of the claim: SymTree, SymRel4, SymTree2, SymLight, SymLight2, SymLight3, SymLight4, SymLight5, SymFresh, SymHeap, SymFresh2, SymHeap2, SymHeavy, SymGhost, SymGhost2. -/
import Derived.Test.YtildjgdhdcoojaaDoorZ07
set_option linter.unusedVariables false
set_option linter.unusedSimpArgs false
namespace Go.Sym
open Go Go.a9
def di (sz : Nat) (R : V -> List AV -> List Nat -> Prop) : List V -> List AV -> List Nat -> Prop
 | [], cs, F => cs = [] /\ F = []
 | x :: xs, cs, F => ∃ c r G K, cs = c ++ r /\ F = G ++ K /\ c.length = sz /\ R x c G /\ di sz R xs r K
def v9 (P : Program) (R : TypeId -> V -> List AV -> List Nat -> Prop) : List Field -> Nat -> List V -> List AV -> List Nat -> Prop
 | [], _, xs, cs, F => xs = [] /\ cs = [] /\ F = []
 | f :: fs, pos, xs, cs, F => ∃ x ys c r G K, xs = x :: ys /\ cs = c ++ r /\ F = G ++ K /\ f.offset = pos /\ R f.type x c G /\ v9 P R fs (pos + c.length) ys r K
def Cw (h : ah) (sz : Nat) (R : V -> List AV -> List Nat -> Prop) (x : V) (av : AV) (F : List Nat) : Prop :=
 (x = .nil /\ av = .aV /\ F = []) \/ ∃ l a cs G, x = .list l /\ av = .slice a 0 l.length sz /\ F = a :: G /\ h.get a = some (.cells cs) /\ di sz R l cs G
def OV (P : Program) (h : ah) : Nat -> TypeId -> V -> List AV -> List Nat -> Prop
 | 0, _, _, _, _ => False
 | d + 1, t, x, cs, F => aA P t = some cs.length /\ match P.underlying t with
  | some (.int k) => ∃ n, x = .int n /\ cs = [.int k n] /\ F = []
  | some .bool => ∃ b, x = .bool b /\ cs = [.bool b] /\ F = []
  | some .string => ∃ s, x = .str s /\ cs = [.str s] /\ F = []
  | some (.slice et) => ∃ av sz, cs = [av] /\ aA P et = some sz /\ 0 < sz /\ Cw h sz (OV P h d et) x av F
  | some (.struct fields) => ∃ xs, x = .list xs /\ v9 P (OV P h d) fields.toList 0 xs cs F
  | some (.array n et) => ∃ xs sz, x = .list xs /\ xs.length = n /\ aA P et = some sz /\ di sz (OV P h d et) xs cs F
  | _ => False
section
variable {P : Program} {h h' : ah}
def gD (h h' : ah) (F : List Nat) : Prop := ∀ a ∈ F, ∀ o, h.get a = some o -> h'.get a = some o
theorem gD.refl (h : ah) (F : List Nat) : gD h h F := fun _ _ _ e => e
theorem gD.left {F G : List Nat} (s : gD h h' (F ++ G)) : gD h h' F := fun a ha => s a (by simp [ha])
theorem gD.right {F G : List Nat} (s : gD h h' (F ++ G)) : gD h h' G := fun a ha => s a (by simp [ha])
theorem di.imp {sz : Nat} {R R' : V -> List AV -> List Nat -> Prop} : ∀ {l : List V} {cs : List AV} {F : List Nat}, (∀ x c G, (∀ a ∈ G, a ∈ F) -> R x c G -> R' x c G) -> di sz R l cs F -> di sz R' l cs F
 | [], _, _, _, e => e
 | _ :: _, _, F, hr, ⟨c, r, G, K, e, f, z, a, b⟩ => ⟨c, r, G, K, e, f, z, hr _ _ _ (fun a ha => by rw [f]; simp [ha]) a, di.imp (fun x c G' hG => hr x c G' fun a ha => by rw [f]; simp [hG a ha]) b⟩
theorem v9.imp {R R' : TypeId -> V -> List AV -> List Nat -> Prop} : ∀ {fs : List Field} {pos : Nat} {xs : List V} {cs : List AV} {F : List Nat}, (∀ t x c G, (∀ a ∈ G, a ∈ F) -> R t x c G -> R' t x c G) -> v9 P R fs pos xs cs F -> v9 P R' fs pos xs cs F
 | [], _, _, _, _, _, e => e
 | _ :: _, _, _, _, F, hr, ⟨x, ys, c, r, G, K, e, e', f, o, a, b⟩ => ⟨x, ys, c, r, G, K, e, e', f, o, hr _ _ _ _ (fun a ha => by rw [f]; simp [ha]) a, v9.imp (fun t x c G' hG => hr t x c G' fun a ha => by rw [f]; simp [hG a ha]) b⟩
theorem OV.length {d : Nat} {t : TypeId} {x : V} {cs : List AV} {F : List Nat} (g : OV P h d t x cs F) : aA P t = some cs.length := by
 cases d with
 | zero => exact g.elim
 | succ d => exact g.1
theorem OV.frame : ∀ {d : Nat} {t : TypeId} {x : V} {cs : List AV} {F : List Nat}, gD h h' F -> OV P h d t x cs F -> OV P h' d t x cs F
 | 0, _, _, _, _, _, g => g
 | d + 1, t, x, cs, F, s, g => by
  obtain ⟨g0, g⟩ := g
  refine ⟨g0, ?_⟩
  split at g
  ·exact g
  ·exact g
  ·exact g
  ·obtain ⟨av, sz, a, b, c, e⟩ := g
   refine ⟨av, sz, a, b, c, ?_⟩
   rcases e with e | ⟨l, a, cs, G, e1, e2, e3, e4, e5⟩
   ·exact .inl e
   ·subst e3
    exact .inr ⟨l, a, cs, G, e1, e2, rfl, s a (by simp) _ e4, e5.imp fun _ _ _ hG => OV.frame fun b hb => s b (by simp [hG b hb])⟩
  ·obtain ⟨xs, a, b⟩ := g
   exact ⟨xs, a, b.imp fun _ _ _ _ hG => OV.frame fun b hb => s b (hG b hb)⟩
  ·obtain ⟨xs, sz, a, b, c, e⟩ := g
   exact ⟨xs, sz, a, b, c, e.imp fun _ _ _ hG => OV.frame fun b hb => s b (hG b hb)⟩
  ·exact g
theorem OV.more : ∀ {d : Nat} {t : TypeId} {x : V} {cs : List AV} {F : List Nat}, OV P h d t x cs F -> OV P h (d + 1) t x cs F
 | 0, _, _, _, _, g => g.elim
 | d + 1, t, x, cs, F, g => by
  obtain ⟨g0, g⟩ := g
  refine ⟨g0, ?_⟩
  split at g
  ·exact g
  ·exact g
  ·exact g
  ·obtain ⟨av, sz, a, b, c, e⟩ := g
   refine ⟨av, sz, a, b, c, ?_⟩
   rcases e with e | ⟨l, a, cs, G, e1, e2, e3, e4, e5⟩
   ·exact .inl e
   ·exact .inr ⟨l, a, cs, G, e1, e2, e3, e4, e5.imp fun _ _ _ _ => OV.more⟩
  ·obtain ⟨xs, a, b⟩ := g
   exact ⟨xs, a, b.imp fun _ _ _ _ _ => OV.more⟩
  ·obtain ⟨xs, sz, a, b, c, e⟩ := g
   exact ⟨xs, sz, a, b, c, e.imp fun _ _ _ _ => OV.more⟩
  ·exact g
theorem OV.le {d d' : Nat} (hd : d <= d') {t : TypeId} {x : V} {cs : List AV} {F : List Nat} (g : OV P h d t x cs F) : OV P h d' t x cs F := by
 induction hd with
 | refl => exact g
 | step _ ih => exact ih.more
theorem OV.fin : ∀ {d d' : Nat} {t : TypeId} {x : V} {cs : List AV} {F : List Nat}, fL P d t = true -> OV P h d' t x cs F -> OV P h d t x cs F
 | 0, _, _, _, _, _, e, _ => by simp [fL] at e
 | d + 1, 0, _, _, _, _, _, g => g.elim
 | d + 1, d' + 1, t, x, cs, F, e, g => by
  obtain ⟨g0, g⟩ := g
  refine ⟨g0, ?_⟩
  unfold fL at e
  split at g
  ·exact g
  ·exact g
  ·exact g
  ·rename_i hu
   rw [hu] at e
   obtain ⟨av, sz, a, b, c, k⟩ := g
   refine ⟨av, sz, a, b, c, ?_⟩
   rcases k with k | ⟨l, a, cs, G, e1, e2, e3, e4, e5⟩
   ·exact .inl k
   ·exact .inr ⟨l, a, cs, G, e1, e2, e3, e4, e5.imp fun _ _ _ _ => OV.fin e⟩
  ·rename_i fields hu
   rw [hu] at e
   simp only [List.all_eq_true] at e
   obtain ⟨xs, a, b⟩ := g
   refine ⟨xs, a, ?_⟩
   generalize fields.toList = fs at e b
   have key : ∀ (fs : List Field) (pos : Nat) (xs : List V) (cs : List AV) (F : List Nat), (∀ f ∈ fs, fL P d f.type = true) -> v9 P (OV P h d') fs pos xs cs F -> v9 P (OV P h d) fs pos xs cs F := by
    intro fs
    induction fs with
    | nil => intro _ _ _ _ _ g; exact g
    | cons f fs ih =>
     intro pos xs cs F hf g
     obtain ⟨x, ys, c, r, G, K, e1, e2, f2, o, a, b⟩ := g
     exact ⟨x, ys, c, r, G, K, e1, e2, f2, o, OV.fin (hf f (by simp)) a, ih _ _ _ _ (fun g hg => hf g (by simp [hg])) b⟩
   exact key _ _ _ _ _ e b
  ·rename_i n et hu
   rw [hu] at e
   obtain ⟨xs, sz, a, b, c, k⟩ := g
   exact ⟨xs, sz, a, b, c, k.imp fun _ _ _ _ => OV.fin e⟩
  ·exact g
theorem di.zD {sz : Nat} {R : V -> List AV -> List Nat -> Prop} {R' : V -> List AV -> Prop} : ∀ {l : List V} {cs : List AV} {F : List Nat}, (∀ x c G, (∀ a ∈ G, a ∈ F) -> R x c G -> R' x c) -> di sz R l cs F -> bQ sz R' l cs
 | [], _, _, _, e => e.1
 | _ :: _, _, F, hr, ⟨c, r, G, K, e, f, z, a, b⟩ => ⟨c, r, e, z, hr _ _ _ (fun a ha => by rw [f]; simp [ha]) a, di.zD (fun x c G' hG => hr x c G' fun a ha => by rw [f]; simp [hG a ha]) b⟩
theorem v9.zD {R : TypeId -> V -> List AV -> List Nat -> Prop} {R' : TypeId -> V -> List AV -> Prop} : ∀ {fs : List Field} {pos : Nat} {xs : List V} {cs : List AV} {F : List Nat}, (∀ t x c G, (∀ a ∈ G, a ∈ F) -> R t x c G -> R' t x c) -> v9 P R fs pos xs cs F -> pZ P R' fs pos xs cs
 | [], _, _, _, _, _, e => ⟨e.1, e.2.1⟩
 | _ :: _, _, _, _, F, hr, ⟨x, ys, c, r, G, K, e, e', f, o, a, b⟩ => ⟨x, ys, c, r, e, e', o, hr _ _ _ _ (fun a ha => by rw [f]; simp [ha]) a, v9.zD (fun t x c G' hG => hr t x c G' fun a ha => by rw [f]; simp [hG a ha]) b⟩
theorem OV.pv {S : Nat -> Prop} : ∀ {d : Nat} {t : TypeId} {x : V} {cs : List AV} {F : List Nat}, (∀ a ∈ F, S a) -> OV P h d t x cs F -> PV P h S d t x cs
 | 0, _, _, _, _, _, g => g
 | d + 1, t, x, cs, F, s, g => by
  obtain ⟨g0, g⟩ := g
  refine ⟨g0, ?_⟩
  split at g
  ·rename_i hu; rw [hu]; obtain ⟨n, a, b, _⟩ := g; exact ⟨n, a, b⟩
  ·rename_i hu; rw [hu]; obtain ⟨n, a, b, _⟩ := g; exact ⟨n, a, b⟩
  ·rename_i hu; rw [hu]; obtain ⟨n, a, b, _⟩ := g; exact ⟨n, a, b⟩
  ·rename_i hu
   rw [hu]
   obtain ⟨av, sz, a, b, c, e⟩ := g
   refine ⟨av, sz, a, b, c, ?_⟩
   rcases e with ⟨e1, e2, _⟩ | ⟨l, a, cs, G, e1, e2, e3, e4, e5⟩
   ·exact .inl ⟨e1, e2⟩
   ·subst e3
    have k : bQ sz (PV P h S d _) l cs := e5.zD fun x c G' (hG : ∀ a ∈ G', a ∈ G) q => OV.pv (S := S) (fun b hb => s b (List.mem_cons_of_mem _ (hG b hb))) q
    refine .inr ⟨l, e1, .inl ⟨a, 0, cs, e2, s a (by simp), e4, by rw [k.length]; omega, ?_⟩⟩
    rw [List.drop_zero, List.take_of_length_le (by rw [k.length]; omega)]
    exact k
  ·rename_i hu
   rw [hu]
   obtain ⟨xs, a, b⟩ := g
   exact ⟨xs, a, b.zD fun _ _ _ _ hG => OV.pv fun b hb => s b (hG b hb)⟩
  ·rename_i hu
   rw [hu]
   obtain ⟨xs, sz, a, b, c, e⟩ := g
   exact ⟨xs, sz, a, b, c, e.zD fun _ _ _ hG => OV.pv fun b hb => s b (hG b hb)⟩
  ·exact g.elim
theorem di.kL {sz : Nat} {R : V -> List AV -> List Nat -> Prop} (hr : ∀ x c G, R x c G -> G = []) : ∀ {l : List V} {cs : List AV} {F : List Nat}, di sz R l cs F -> F = []
 | [], _, _, e => e.2
 | _ :: _, _, _, ⟨c, r, G, K, e, f, z, a, b⟩ => by rw [f, hr _ _ _ a, di.kL hr b]; rfl
theorem OV.kL : ∀ {d d' : Nat} {t : TypeId} {x : V} {cs : List AV} {F : List Nat}, bA P d t = false -> OV P h d' t x cs F -> F = []
 | 0, _, _, _, _, _, e, _ => by simp [bA] at e
 | d + 1, 0, _, _, _, _, _, g => g.elim
 | d + 1, d' + 1, t, x, cs, F, e, g => by
  obtain ⟨g0, g⟩ := g
  unfold bA at e
  split at g
  ·obtain ⟨n, _, _, r⟩ := g; exact r
  ·obtain ⟨n, _, _, r⟩ := g; exact r
  ·obtain ⟨n, _, _, r⟩ := g; exact r
  ·rename_i hu; rw [hu] at e; simp at e
  ·rename_i fields hu
   rw [hu] at e
   simp only [List.any_eq_false] at e
   obtain ⟨xs, a, b⟩ := g
   generalize fields.toList = fs at e b
   have key : ∀ (fs : List Field) (pos : Nat) (xs : List V) (cs : List AV) (F : List Nat), (∀ f ∈ fs, ¬ bA P d f.type = true) -> v9 P (OV P h d') fs pos xs cs F -> F = [] := by
    intro fs
    induction fs with
    | nil => intro _ _ _ _ _ g; exact g.2.2
    | cons f fs ih =>
     intro pos xs cs F hf g
     obtain ⟨x, ys, c, r, G, K, e1, e2, f2, o, a, b⟩ := g
     rw [f2, OV.kL (by simpa using hf f (by simp)) a, ih _ _ _ _ (fun g hg => hf g (by simp [hg])) b]; rfl
   exact key _ _ _ _ _ e b
  ·rename_i n et hu
   rw [hu] at e
   obtain ⟨xs, sz, a, b, c, k⟩ := g
   exact k.kL fun _ _ _ q => OV.kL e q
  ·exact g.elim
theorem bQ.A9 {sz : Nat} {R : V -> List AV -> List Nat -> Prop} {R' : V -> List AV -> Prop} (hr : ∀ x c, R' x c -> R x c []) : ∀ {l : List V} {cs : List AV}, bQ sz R' l cs -> di sz R l cs []
 | [], _, e => ⟨e, rfl⟩
 | _ :: _, _, ⟨c, r, e, z, a, b⟩ => ⟨c, r, [], [], e, rfl, z, hr _ _ a, bQ.A9 hr b⟩
theorem PV.A9 : ∀ {d d' : Nat} {t : TypeId} {x : V} {cs : List AV} {S : Nat -> Prop}, bA P d t = false -> PV P h S d' t x cs -> OV P h d' t x cs []
 | 0, _, _, _, _, _, e, _ => by simp [bA] at e
 | d + 1, 0, _, _, _, _, _, g => g.elim
 | d + 1, d' + 1, t, x, cs, S, e, g => by
  obtain ⟨g0, g⟩ := g
  refine ⟨g0, ?_⟩
  unfold bA at e
  split at g
  ·rename_i hu; rw [hu]; obtain ⟨n, a, b⟩ := g; exact ⟨n, a, b, rfl⟩
  ·rename_i hu; rw [hu]; obtain ⟨n, a, b⟩ := g; exact ⟨n, a, b, rfl⟩
  ·rename_i hu; rw [hu]; obtain ⟨n, a, b⟩ := g; exact ⟨n, a, b, rfl⟩
  ·rename_i hu; rw [hu] at e; simp at e
  ·rename_i fields hu
   rw [hu] at e ⊢
   simp only [List.any_eq_false] at e
   obtain ⟨xs, a, b⟩ := g
   refine ⟨xs, a, ?_⟩
   generalize fields.toList = fs at e b
   have key : ∀ (fs : List Field) (pos : Nat) (xs : List V) (cs : List AV), (∀ f ∈ fs, ¬ bA P d f.type = true) -> pZ P (PV P h S d') fs pos xs cs -> v9 P (OV P h d') fs pos xs cs [] := by
    intro fs
    induction fs with
    | nil => intro _ _ _ _ g; exact ⟨g.1, g.2, rfl⟩
    | cons f fs ih =>
     intro pos xs cs hf g
     obtain ⟨x, ys, c, r, e1, e2, o, a, b⟩ := g
     exact ⟨x, ys, c, r, [], [], e1, e2, rfl, o, PV.A9 (by simpa using hf f (by simp)) a, ih _ _ _ (fun g hg => hf g (by simp [hg])) b⟩
   exact key _ _ _ _ e b
  ·rename_i n et hu
   rw [hu] at e ⊢
   obtain ⟨xs, sz, a, b, c, k⟩ := g
   exact ⟨xs, sz, a, b, c, k.A9 fun _ _ q => PV.A9 e q⟩
  ·exact g.elim
theorem di.length {sz : Nat} {R : V -> List AV -> List Nat -> Prop} {l : List V} {cs : List AV} {F : List Nat} (g : di sz R l cs F) : cs.length = l.length * sz :=
 (g.zD (R' := fun _ _ => True) fun _ _ _ _ _ => trivial).length
theorem di.append {sz : Nat} {R : V -> List AV -> List Nat -> Prop} : ∀ {l m : List V} {cs ds : List AV} {F G : List Nat}, di sz R l cs F -> di sz R m ds G -> di sz R (l ++ m) (cs ++ ds) (F ++ G)
 | [], _, _, _, _, _, e, g => by obtain ⟨rfl, rfl⟩ := e; exact g
 | x :: xs, _, _, _, _, _, ⟨c, r, G, K, e, f, z, a, b⟩, g => ⟨c, r ++ _, G, K ++ _, by rw [e, List.append_assoc], by rw [f, List.append_assoc], z, a, di.append b g⟩
theorem di.replicate {sz : Nat} {R : V -> List AV -> List Nat -> Prop} {x : V} {c : List AV} (hc : c.length = sz) (hx : R x c []) : ∀ n, di sz R (List.replicate n x) (dE c n) []
 | 0 => ⟨rfl, rfl⟩
 | n + 1 => ⟨c, _, [], [], rfl, rfl, hc, hx, di.replicate hc hx n⟩
theorem di.focus {sz : Nat} {R : V -> List AV -> List Nat -> Prop} : ∀ {l : List V} {cs : List AV} {F : List Nat}, di sz R l cs F -> ∀ {i : Nat} {x : V}, l[i]? = some x ->
  ∃ c r F1 G F2, cs.drop (i * sz) = c ++ r /\ c.length = sz /\ F = F1 ++ G ++ F2 /\ R x c G /\
   ∀ {R' : V -> List AV -> List Nat -> Prop} {y : V} {c' : List AV} {G' : List Nat}, (∀ x c K, (∀ a ∈ K, a ∈ F1 ++ F2) -> R x c K -> R' x c K) -> c'.length = sz -> R' y c' G' -> di sz R' (l.set i y) (aB cs (i * sz) c') (F1 ++ G' ++ F2)
 | [], _, _, _, i, x, e => by simp at e
 | x0 :: xs, _, _, ⟨c, r, G, K, rfl, rfl, z, a, b⟩, 0, x, e => by
  simp at e; subst e
  refine ⟨c, r, [], G, K, by simp, z, by simp, a, ?_⟩
  intro R' y c' G' hR hc hy
  refine ⟨c', r, G', K, ?_, by simp, hc, hy, b.imp fun x c M hM q => hR x c M (by simpa using hM) q⟩
  simp [aB, hc, <- z]
 | x0 :: xs, _, _, ⟨c, r, G, K, rfl, rfl, z, a, b⟩, i + 1, x, e => by
  obtain ⟨c1, r1, F1, G1, F2, q1, q2, q3, q4, q5⟩ := di.focus b (i := i) (x := x) (by simpa using e)
  refine ⟨c1, r1, G ++ F1, G1, F2, ?_, q2, by rw [q3]; simp, q4, ?_⟩
  ·rw [Nat.succ_mul, Nat.add_comm, <- z, <- List.drop_drop, List.drop_left' rfl, z]; exact q1
  ·intro R' y c' G' hR hc hy
   have k := q5 (R' := R') (fun x c M hM q => hR x c M (fun a ha => by have := hM a ha; simp at this ⊢; rcases this with h | h <;> simp [h]) q) hc hy
   refine ⟨c, aB r (i * sz) c', G, F1 ++ G' ++ F2, ?_, by simp, z, hR _ _ _ (fun a ha => by simp [ha]) a, k⟩
   unfold aB
   rw [Nat.succ_mul, Nat.add_comm (i * sz) sz]
   rw [List.take_append, List.take_of_length_le (by omega), z, Nat.add_sub_cancel_left]
   rw [show sz + i * sz + c'.length = c.length + (i * sz + c'.length) from by omega, <- List.drop_drop, List.drop_left' rfl]
   simp
theorem v9.focus {R : TypeId -> V -> List AV -> List Nat -> Prop} : ∀ {fs : List Field} {pos : Nat} {xs : List V} {cs : List AV} {F : List Nat}, v9 P R fs pos xs cs F -> ∀ {i : Nat} {f : Field}, fs[i]? = some f ->
  ∃ x c r F1 G F2, xs[i]? = some x /\ pos <= f.offset /\ cs.drop (f.offset - pos) = c ++ r /\ F = F1 ++ G ++ F2 /\ R f.type x c G /\ f.offset - pos + c.length <= cs.length /\
   ∀ {R' : TypeId -> V -> List AV -> List Nat -> Prop} {y : V} {c' : List AV} {G' : List Nat}, (∀ t x c K, (∀ a ∈ K, a ∈ F1 ++ F2) -> R t x c K -> R' t x c K) -> c'.length = c.length -> R' f.type y c' G' -> v9 P R' fs pos (xs.set i y) (aB cs (f.offset - pos) c') (F1 ++ G' ++ F2)
 | [], _, _, _, _, _, i, f, e => by simp at e
 | f0 :: fs, pos, _, _, _, ⟨x0, ys, c, r, G, K, rfl, rfl, rfl, ho, a, b⟩, 0, f, e => by
  simp at e; subst e
  refine ⟨x0, c, r, [], G, K, rfl, by omega, by rw [ho]; simp, by simp, a, by rw [ho]; simp, ?_⟩
  intro R' y c' G' hR hc hy
  refine ⟨y, ys, c', r, G', K, rfl, ?_, by simp, ho, hy, ?_⟩
  ·rw [ho]; simp [aB, hc]
  ·rw [hc]; exact b.imp fun t x c M hM q => hR t x c M (by simpa using hM) q
 | f0 :: fs, pos, _, _, _, ⟨x0, ys, c, r, G, K, rfl, rfl, rfl, ho, a, b⟩, i + 1, f, e => by
  obtain ⟨x1, c1, r1, F1, G1, F2, q0, qo, q1, q3, q4, ql, q5⟩ := v9.focus b (i := i) (f := f) (by simpa using e)
  refine ⟨x1, c1, r1, G ++ F1, G1, F2, by simpa using q0, by omega, ?_, by rw [q3]; simp, q4, by simp; omega, ?_⟩
  ·rw [show f.offset - pos = c.length + (f.offset - (pos + c.length)) from by omega, <- List.drop_drop, List.drop_left' rfl]; exact q1
  ·intro R' y c' G' hR hc hy
   have k := q5 (R' := R') (fun t x c M hM q => hR t x c M (fun a ha => by have := hM a ha; simp at this ⊢; rcases this with h | h <;> simp [h]) q) hc hy
   refine ⟨x0, ys.set i y, c, aB r (f.offset - (pos + c.length)) c', G, F1 ++ G' ++ F2, rfl, ?_, by simp, ho, hR _ _ _ _ (fun a ha => by simp [ha]) a, k⟩
   unfold aB
   rw [List.take_append, List.take_of_length_le (by omega), show f.offset - pos - c.length = f.offset - (pos + c.length) from by omega]
   rw [show f.offset - pos + c'.length = c.length + (f.offset - (pos + c.length) + c'.length) from by omega, <- List.drop_drop, List.drop_left' rfl]
   simp
end
end Go.Sym
namespace Go.Sym
open Go Go.a9
def own : b5 -> Bool
 | .dK .. => false
 | _ => true
def mZ (P : Program) (h : ah) (H : Hid) (ρ : Env) (x : Tr SV) (y : Tr AV) : Prop := ∀ t v, x.get t = some v -> SD P h H ρ v (bJ y t)
inductive zz (P : Program) (h : ah) (H : Hid) (ρ : Env) : oR -> iZ -> Prop
 | func {f : FuncId} {x : List SV} {u : List AV} : cB P h H ρ x u -> zz P h H ρ ⟨.func f, x⟩ ⟨.func f, u⟩
 | collected {r a : Nat} {x : List SV} {u : List AV} : H.ν r = some (.obj a) -> cB P h H ρ x u -> zz P h H ρ ⟨.collected r, x⟩ ⟨.collected a, u⟩
inductive jv (P : Program) (h : ah) (H : Hid) (ρ : Env) : List oR -> List iZ -> Prop
 | nil : jv P h H ρ [] []
 | cons {x : oR} {u : iZ} {xs : List oR} {us : List iZ} : zz P h H ρ x u -> jv P h H ρ xs us -> jv P h H ρ (x :: xs) (u :: us)
structure kN (P : Program) (h : ah) (H : Hid) (ρ : Env) (x : mg) (y : fS) : Prop where
 state : y.state = x.state
 pending : y.pending = x.pending
 fn : y.fn = x.fn
 nt : y.nt = x.nt
 tm : mZ P h H ρ x.tm y.tm
 params : y.params = x.params
 assign : y.assign = x.assign
 body : y.body = x.body
 defers : H.ν x.defers = some (.obj y.defers)
structure Cs (P : Program) (h : ah) (H : Hid) (t : TypeId) (l : List V) (a len sz : Nat) (acs : List AV) : Prop where
 size : aA P t = some sz
 pos : 0 < sz
 len : len = l.length
 get : h.get a = some (.cells acs)
 row : bQ sz (PV P h H.S deep t) l acs
def mj (H : Hid) (c : Nat) (av : AV) : Prop := (H.ν c = some .nil /\ av = .aV) \/ ∃ a len sz, H.ν c = some (.nN a len sz) /\ av = .slice a 0 len sz
def V.part (x : V) : Option Nat -> V
 | none => x
 | some j => x.get (Int.ofNat j)
def V.put (x y : V) : Option Nat -> V
 | none => y
 | some j => x.set (Int.ofNat j) y
structure Cm (P : Program) (h : ah) (t : TypeId) (l : List V) (a len sz : Nat) (acs : List AV) : Prop where
 size : aA P t = some sz
 pos : 0 < sz
 len : len = l.length
 get : h.get a = some (.cells acs)
structure Ae (P : Program) (H : Hid) (ρ : Env) (t : TypeId) (l : List V) (sz : Nat) (acs : List AV) (i : E) (off : Nat) (st : TypeId) (c : Nat) (m : Nat) (j : Option Nat) : Prop where
 ix : i.i ρ = Int.ofNat m
 lt : m < l.length
 part : partAt P t off st = some j
 ya : ∃ av, acs[m * sz + off]? = some av /\ mj H c av
inductive db (P : Program) (h : ah) (H : Hid) (ρ : Env) (b : Nat) : b5 -> Prop
 | cells {cs : List SV} {a : Nat} {acs : List AV} : H.ν b = some (.cells a) -> h.get a = some (.cells acs) -> cB P h H ρ cs acs -> db P h H ρ b (.cells cs)
 | iA {t : TypeId} {e : E} {ib sz : Nat} : e.v ρ = .nil -> H.ν b = some .nil -> aA P t = some sz -> 0 < sz -> db P h H ρ b (.arr t e ib)
 | arr {t : TypeId} {e : E} {ib a len sz : Nat} {l : List V} {acs : List AV} : e.v ρ = .list l -> H.ν b = some (.nN a len sz) -> Cs P h H t l a len sz acs -> H.κb b ib = acs -> db P h H ρ b (.arr t e ib)
 | ic {t : TypeId} {e : E} {n sz : Nat} : aA P t = some sz -> 0 < sz -> e.v ρ = .nil -> H.ν b = some .nil -> H.κ n = [.aV] -> db P h H ρ b (.dK t e n)
 | dK {t : TypeId} {e : E} {n a len sz : Nat} {l : List V} {acs : List AV} : e.v ρ = .list l -> H.ν b = some (.nN a len sz) -> Cs P h H t l a len sz acs -> H.S a -> H.κ n = [.slice a 0 len sz] -> db P h H ρ b (.dK t e n)
 | eH {t : TypeId} {e : E} {sz : Nat} : e.v ρ = .nil -> H.ν b = some .nil -> aA P t = some sz -> 0 < sz -> H.fp b = [] -> db P h H ρ b (.tree t e none)
 | tree {t : TypeId} {e : E} {a len sz : Nat} {l : List V} {acs : List AV} : e.v ρ = .list l -> H.ν b = some (.nN a len sz) -> Cm P h t l a len sz acs -> di sz (OV P h deep t) l acs (H.fp b) -> db P h H ρ b (.tree t e none)
 | jf {t : TypeId} {e : E} {i : E} {off : Nat} {st : TypeId} {c m : Nat} {j : Option Nat} {a len sz : Nat} {l : List V} {acs : List AV} : e.v ρ = .list l -> H.ν b = some (.nN a len sz) -> Cm P h t l a len sz acs -> Ae P H ρ t l sz acs i off st c m j -> di sz (OV P h deep t) (l.set m (((V.list l).get (Int.ofNat m)).put .nil j)) (aB acs (m * sz + off) [.aV]) (H.fp b) -> db P h H ρ b (.tree t e (some (i, off, st, c)))
 | dW {t et : TypeId} {e i : E} {c m a len : Nat} {l : List V} {acs : List AV} : e.v ρ = .list l -> H.ν b = some (.nN a len 1) -> aA P t = some 1 -> P.underlying t = some (.slice et) /\ fL P 11 et = true -> len = l.length -> h.get a = some (.cells acs) -> i.i ρ = Int.ofNat m -> m < l.length -> (∃ av, acs[m]? = some av /\ mj H c av) -> bQ 1 (PV P h H.S deep t) (l.set m .nil) (acs.set m .aV) -> db P h H ρ b (.dW t et e i c)
 | dh {t et : TypeId} {e i i2 : E} {c c2 m m2 a len : Nat} {l : List V} {acs : List AV} : e.v ρ = .list l -> H.ν b = some (.nN a len 1) -> Cm P h t l a len 1 acs -> P.underlying t = some (.slice et) -> (i.i ρ = Int.ofNat m /\ i2.i ρ = Int.ofNat m2 /\ m ≠ m2 /\ m < l.length /\ m2 < l.length) -> (∃ av, acs[m]? = some av /\ mj H c av) -> (∃ av, acs[m2]? = some av /\ mj H c2 av) -> di 1 (OV P h deep t) ((l.set m .nil).set m2 .nil) ((acs.set m .aV).set m2 .aV) (H.fp b) -> db P h H ρ b (.dh t et e i c i2 c2)
 | loop {x : mg} {y : fS} {a : Nat} : H.ν b = some (.obj a) -> h.get a = some (.loop y) -> kN P h H ρ x y -> db P h H ρ b (.loop x)
 | deferred {x : Option (List oR)} {y : Option (List iZ)} {a : Nat} : H.ν b = some (.obj a) -> h.get a = some (.deferred y) -> (match x, y with | none, none => True | some u, some v => jv P h H ρ u v | _, _ => False) -> db P h H ρ b (.deferred x)
def bf : b5 -> Bool
 | .tree .. => true
 | .dh .. => true
 | _ => false
structure C1 (h0 h : ah) (H : Hid) (sh : ae) : Prop where
 lt : ∀ b o, sh.get b = some o -> bf o = true -> ∀ c ∈ H.fp b, ¬ H.S c /\ h0.next <= c /\ c < h.next
 nd : ∀ b o, sh.get b = some o -> bf o = true -> (H.fp b).Nodup
 inj : ∀ b b' o o' c, sh.get b = some o -> sh.get b' = some o' -> bf o = true -> bf o' = true -> c ∈ H.fp b -> c ∈ H.fp b' -> b = b'
 ow : ∀ b o b' o' l c, sh.get b = some o -> bf o = true -> c ∈ H.fp b -> sh.get b' = some o' -> own o' = true -> H.ν b' = some l -> l.at = some c -> False
structure HR (P : Program) (h0 : ah) (h : ah) (H : Hid) (ρ : Env) (sh : ae) : Prop where
 bj : ∀ b o, sh.get b = some o -> db P h H ρ b o
 inj : ∀ b b' o o' l l' a, sh.get b = some o -> sh.get b' = some o' -> own o = true -> own o' = true -> H.ν b = some l -> H.ν b' = some l' -> l.at = some a -> l'.at = some a -> b = b'
 mL : ∀ b o l a, sh.get b = some o -> own o = true -> H.ν b = some l -> l.at = some a -> ¬ H.S a /\ h0.next <= a
 fN : ∀ a, H.S a -> a < h.next
 next : h0.next <= h.next
 cJ : ∀ c, c < h0.next -> h.get c = h0.get c
 cR : ∀ b, sh.next <= b -> H.ν b = none
 cV : ∀ b l a, H.ν b = some l -> l.at = some a -> a < h.next
 ka : ∀ n, sh.iz <= n -> H.κ n = []
 kb : ∀ b v, sh.next <= v -> H.κb b v = []
 none_ : ∀ c, h.next <= c -> h.get c = none
 b4 : ∀ b o, sh.get b = some o -> b < sh.next
 tr : C1 h0 h H sh
inductive A7 (H : Hid) : bu -> bu -> Prop
 | same (x : bu) : (∀ l, x ≠ .inRangeFunc l /\ x ≠ .endRangeFunc l) -> A7 H x x
 | inRangeFunc {l a : Nat} : H.ν l = some (.obj a) -> A7 H (.inRangeFunc l) (.inRangeFunc a)
 | endRangeFunc {l a : Nat} : H.ν l = some (.obj a) -> A7 H (.endRangeFunc l) (.endRangeFunc a)
inductive rh (H : Hid) : List bu -> List bu -> Prop
 | nil : rh H [] []
 | cons {x y : bu} {xs ys : List bu} : A7 H x y -> rh H xs ys -> rh H (x :: xs) (y :: ys)
def x6 : Dn -> qO -> Prop
 | .run, .run => True
 | .returning, .returning => True
 | _, _ => False
inductive A5 (H : Hid) : Option Nat -> Option Nat -> Prop
 | none : A5 H none none
 | some {l a : Nat} : H.ν l = some (.obj a) -> A5 H (some l) (some a)
structure FR (P : Program) (h : ah) (H : Hid) (ρ : Env) (x : aT) (y : ak) : Prop where
 fn : y.fn = x.fn
 nt : y.nt = x.nt
 tm : mZ P h H ρ x.tm y.tm
 todo : rh H x.todo y.todo
 defers : jv P h H ρ x.defers y.defers
 mode : x6 x.mode y.mode
 deferred : y.deferred = x.deferred
 round : A5 H x.roundOf y.roundOf
inductive we (P : Program) (h : ah) (H : Hid) (ρ : Env) : List aT -> List ak -> Prop
 | nil : we P h H ρ [] []
 | cons {x : aT} {y : ak} {xs : List aT} {ys : List ak} : FR P h H ρ x y -> we P h H ρ xs ys -> we P h H ρ (x :: xs) (y :: ys)
def MR (P : Program) (h0 : ah) (S0 : Nat -> Prop) (outer : List ak) (ρ : Env) (s : au) (m : bc) : Prop :=
 ∃ H cs, m.callers = cs ++ outer /\ FR P m.h H ρ s.fr m.fr /\ we P m.h H ρ s.callers cs /\ HR P h0 m.h H ρ s.h /\ ∀ a, H.S a -> S0 a \/ h0.next <= a
section
variable {P : Program} {h h' : ah} {H H' : Hid} {ρ : Env}
theorem mZ.mono (x : aM h H h' H') {a : Tr SV} {b : Tr AV} (g : mZ P h H ρ a b) : mZ P h' H' ρ a b := fun t v e => (g t v e).mono x
theorem zz.mono (x : aM h H h' H') {a : oR} {b : iZ} (g : zz P h H ρ a b) : zz P h' H' ρ a b := by
 cases g with
 | func a => exact .func (a.mono x)
 | collected e a => exact .collected (x.nu _ _ e) (a.mono x)
theorem jv.mono (x : aM h H h' H') {a : List oR} {b : List iZ} (g : jv P h H ρ a b) : jv P h' H' ρ a b := by
 induction g with
 | nil => exact .nil
 | cons a b ih => exact .cons (a.mono x) ih
theorem kN.mono (x : aM h H h' H') {a : mg} {b : fS} (g : kN P h H ρ a b) : kN P h' H' ρ a b :=
 ⟨g.state, g.pending, g.fn, g.nt, g.tm.mono x, g.params, g.assign, g.body, x.nu _ _ g.defers⟩
theorem A7.mono (x : aM h H h' H') {a b : bu} (g : A7 H a b) : A7 H' a b := by
 cases g with
 | same _ e => exact .same _ e
 | inRangeFunc e => exact .inRangeFunc (x.nu _ _ e)
 | endRangeFunc e => exact .endRangeFunc (x.nu _ _ e)
theorem rh.mono (x : aM h H h' H') {a b : List bu} (g : rh H a b) : rh H' a b := by
 induction g with
 | nil => exact .nil
 | cons a b ih => exact .cons (a.mono x) ih
theorem A5.mono (x : aM h H h' H') {a b : Option Nat} (g : A5 H a b) : A5 H' a b := by
 cases g with
 | none => exact .none
 | some e => exact .some (x.nu _ _ e)
theorem FR.mono (x : aM h H h' H') {a : aT} {b : ak} (g : FR P h H ρ a b) : FR P h' H' ρ a b :=
 ⟨g.fn, g.nt, g.tm.mono x, g.todo.mono x, g.defers.mono x, g.mode, g.deferred, g.round.mono x⟩
theorem we.mono (x : aM h H h' H') {a : List aT} {b : List ak} (g : we P h H ρ a b) : we P h' H' ρ a b := by
 induction g with
 | nil => exact .nil
 | cons a b ih => exact .cons (a.mono x) ih
theorem Cs.mono (x : aM h H h' H') {t : TypeId} {l : List V} {a len sz : Nat} {acs : List AV} (hg : h'.get a = some (.cells acs)) (g : Cs P h H t l a len sz acs) : Cs P h' H' t l a len sz acs :=
 ⟨g.size, g.pos, g.len, hg, g.row.imp fun _ _ p => p.mono x.kept⟩
theorem bM {o : b5} (e : bf o = true) : own o = true := by cases o <;> first | rfl | cases e
theorem mj.mono (x : aM h H h' H') {c : Nat} {av : AV} (g : mj H c av) : mj H' c av := by
 rcases g with ⟨a, b⟩ | ⟨a, len, sz, b, c⟩
 ·exact .inl ⟨x.nu _ _ a, b⟩
 ·exact .inr ⟨a, len, sz, x.nu _ _ b, c⟩
theorem Ae.mono (x : aM h H h' H') {t : TypeId} {l : List V} {sz : Nat} {acs : List AV} {i : E} {off : Nat} {st : TypeId} {c m : Nat} {j : Option Nat} (g : Ae P H ρ t l sz acs i off st c m j) : Ae P H' ρ t l sz acs i off st c m j := by
 obtain ⟨av, g1, g2⟩ := g.ya
 exact ⟨g.ix, g.lt, g.part, av, g1, g2.mono x⟩
theorem C1.step {h0 : ah} {sh sh' : ae} (T : C1 h0 h H sh) (h1 : ∀ b o, sh'.get b = some o -> bf o = true -> ∃ o0, sh.get b = some o0 /\ bf o0 = true /\ H'.fp b = H.fp b) (h2 : ∀ b o c, sh'.get b = some o -> bf o = true -> c ∈ H.fp b -> H'.S c -> H.S c)
  (h3 : ∀ b o l a, sh'.get b = some o -> own o = true -> H'.ν b = some l -> l.at = some a -> (∃ b0 o0 l0, sh.get b0 = some o0 /\ own o0 = true /\ H.ν b0 = some l0 /\ l0.at = some a) \/ h.next <= a \/ ∀ b0 o0, sh.get b0 = some o0 -> bf o0 = true -> a ∉ H.fp b0) (h4 : h.next <= h'.next) : C1 h0 h' H' sh' := by
 refine ⟨fun b o e w c hc => ?_, fun b o e w => ?_, fun b b' o o' c e e' w w' hc hc' => ?_, fun b o b' o' l c e w hc e' w' n l1 => ?_⟩
 ·obtain ⟨o0, e0, w0, hf⟩ := h1 b o e w
  rw [hf] at hc
  obtain ⟨q1, q2, q3⟩ := T.lt b o0 e0 w0 c hc
  exact ⟨fun q => q1 (h2 b o c e w hc q), q2, by omega⟩
 ·obtain ⟨o0, e0, w0, hf⟩ := h1 b o e w
  rw [hf]; exact T.nd b o0 e0 w0
 ·obtain ⟨o0, e0, w0, hf⟩ := h1 b o e w
  obtain ⟨o0', e0', w0', hf'⟩ := h1 b' o' e' w'
  rw [hf] at hc; rw [hf'] at hc'
  exact T.inj b b' o0 o0' c e0 e0' w0 w0' hc hc'
 ·obtain ⟨o0, e0, w0, hf⟩ := h1 b o e w
  rw [hf] at hc
  rcases h3 b' o' l c e' w' n l1 with ⟨b0, o0', l0, k1, k2, k3, k4⟩ | k | k
  ·exact T.ow b o0 b0 o0' l0 c e0 w0 hc k1 k2 k3 k4
  ·have := (T.lt b o0 e0 w0 c hc).2.2; omega
  ·exact k b o0 e0 w0 hc
theorem db.mono (x : aM h H h' H') {b : Nat} {o : b5} (hf : bf o = true -> H'.fp b = H.fp b /\ gD h h' (H.fp b)) (hg : ∀ l a, H.ν b = some l -> l.at = some a -> ∀ o, h.get a = some o -> h'.get a = some o) (hv : ∀ t e ib, o = .arr t e ib -> H'.κb b ib = H.κb b ib) (hn : ∀ n, H.κ n ≠ [] -> H'.κ n = H.κ n) (g : db P h H ρ b o) : db P h' H' ρ b o := by
 cases g with
 | cells e1 e2 e3 => exact .cells (x.nu _ _ e1) (hg _ _ e1 rfl _ e2) (e3.mono x)
 | iA e1 e2 e3 e4 => exact .iA e1 (x.nu _ _ e2) e3 e4
 | arr e1 e2 e3 e4 => exact .arr e1 (x.nu _ _ e2) (e3.mono x (hg _ _ e2 rfl _ e3.get)) (by rw [hv _ _ _ rfl]; exact e4)
 | eH e1 e2 e3 e4 e5 => exact .eH e1 (x.nu _ _ e2) e3 e4 (by rw [(hf rfl).1, e5])
 | tree e1 e2 e3 e4 =>
  obtain ⟨f1, f2⟩ := hf rfl
  exact .tree e1 (x.nu _ _ e2) ⟨e3.size, e3.pos, e3.len, hg _ _ e2 rfl _ e3.get⟩ (by rw [f1]; exact e4.imp fun _ _ _ hG => OV.frame fun a ha => f2 a (hG a ha))
 | dW e1 e2 e3 e4 e5 e6 e7 e8 e9 e10 =>
  obtain ⟨av, g1, g2⟩ := e9
  exact .dW e1 (x.nu _ _ e2) e3 e4 e5 (hg _ _ e2 rfl _ e6) e7 e8 ⟨av, g1, g2.mono x⟩ (e10.imp fun _ _ p => p.mono x.kept)
 | jf e1 e2 e3 e4 e5 =>
  obtain ⟨f1, f2⟩ := hf rfl
  exact .jf e1 (x.nu _ _ e2) ⟨e3.size, e3.pos, e3.len, hg _ _ e2 rfl _ e3.get⟩ (e4.mono x) (by rw [f1]; exact e5.imp fun _ _ _ hG => OV.frame fun a ha => f2 a (hG a ha))
 | dh e1 e2 e3 e4 e5 e6 e7 e8 =>
  obtain ⟨f1, f2⟩ := hf rfl
  obtain ⟨av, g1, g2⟩ := e6
  obtain ⟨aw, g3, g4⟩ := e7
  exact .dh e1 (x.nu _ _ e2) ⟨e3.size, e3.pos, e3.len, hg _ _ e2 rfl _ e3.get⟩ e4 e5 ⟨av, g1, g2.mono x⟩ ⟨aw, g3, g4.mono x⟩ (by rw [f1]; exact e8.imp fun _ _ _ hG => OV.frame fun a ha => f2 a (hG a ha))
 | ic e1 e2 e3 e4 e5 => exact .ic e1 e2 e3 (x.nu _ _ e4) (by rw [hn _ (by rw [e5]; simp)]; exact e5)
 | dK e1 e2 e3 e4 e5 => exact .dK e1 (x.nu _ _ e2) (e3.mono x (hg _ _ e2 rfl _ e3.get)) (x.kept _ e4).1 (by rw [hn _ (by rw [e5]; simp)]; exact e5)
 | loop e1 e2 e3 => exact .loop (x.nu _ _ e1) (hg _ _ e1 rfl _ e2) (e3.mono x)
 | deferred e1 e2 e3 =>
  refine .deferred (x.nu _ _ e1) (hg _ _ e1 rfl _ e2) ?_
  split at e3
  ·trivial
  ·exact e3.mono x
  ·exact e3.elim
theorem ae.aP (s : ae) (b c : Nat) (o : b5) : (s.set b o).get c = if c = b then some o else s.get c := Tr.aP _ _ _ _
theorem ae.bO (s : ae) (b c : Nat) : (s.kill b).get c = if c = b then none else s.get c := Tr.get_erase _ _ _
theorem ae.aQ (s : ae) (c : Nat) (o : b5) : (s.new o).get c = if c = s.next then some o else s.get c := Tr.aP _ _ _ _
theorem mZ.at {x : Tr SV} {y : Tr AV} (g : mZ P h H ρ x y) (t : Nat) : SD P h H ρ (mM x t) (bJ y t) := by
 unfold mM
 split
 ·rename_i v e; exact g t v e
 ·exact .bad _
theorem cM {x : Tr SV} {y : Tr AV} (g : mZ P h H ρ x y) (o : Operand) : SD P h H ρ (aU x o) (evalOp y o) := by
 cases o with
 | tmp t => exact g.at t
 | const v => exact wN v
 | global n =>
  show SD P h H ρ (Ew n) (gv n)
  unfold Ew gv
  cases CR.lookup n with
  | none => exact .bad _
  | some cs =>
   refine .gp ?_
   induction cs with
   | nil => exact .nil
   | cons a l ih =>
    refine .cons ?_ ih
    unfold DZ
    split
    ·exact .bool _
    ·exact .int _ _
    ·exact .func .nil .nil
    ·exact .bad _
 | func f => exact .func .nil .nil
theorem mZ.set {x : Tr SV} {y : Tr AV} (g : mZ P h H ρ x y) (t : Nat) {v : SV} {u : AV} (k : SD P h H ρ v u) : mZ P h H ρ (x.set t v) (y.set t u) := by
 intro c w e
 rw [Tr.aP] at e
 unfold bJ
 rw [Tr.aP]
 by_cases hc : c = t
 ·subst hc; simp at e ⊢; subst e; exact k
 ·rw [if_neg hc] at e ⊢; exact g c w e
end
end Go.Sym
namespace Go.Sym
open Go Go.a9
theorem beq_tt' {a b : Nat} (h : Nat.beq a b = true) : a = b := Nat.eq_of_beq_eq_true h
theorem cond_ok' {α : Type} {c : Bool} {x : Option α} {y : α} (h : cond c x none = some y) : c = true /\ x = some y := by
 cases c with
 | true => exact ⟨rfl, h⟩
 | false => cases h
section
variable {P : Program} {h h' : ah} {H H' : Hid} {ρ : Env}
theorem lN : ∀ {fs : List Field} {off j k : Nat} {f : Field}, fieldAt fs off j = some (k, f) -> j <= k /\ fs[k - j]? = some f /\ f.offset = off
 | [], _, _, _, _, e => by simp [fieldAt] at e
 | g :: fs, off, j, k, f, e => by
  unfold fieldAt at e
  cases hb : Nat.beq g.offset off with
  | true =>
   rw [hb] at e
   simp at e
   obtain ⟨rfl, rfl⟩ := e
   exact ⟨Nat.le_refl _, by simp, beq_tt' hb⟩
  | false =>
   rw [hb] at e
   obtain ⟨h1, h2, h3⟩ := lN e
   refine ⟨by omega, ?_, h3⟩
   rw [show k - j = (k - (j + 1)) + 1 from by omega]
   simpa using h2
theorem jx {acs c r v : List AV} {p off : Nat} (hd : acs.drop p = c ++ r) (hle : off + v.length <= c.length) (hp : p <= acs.length) : aB acs (p + off) v = aB acs p (aB c off v) := by
 have hl : (aB c off v).length = c.length := by unfold aB; simp; omega
 have h3 : acs.drop (p + (aB c off v).length) = r := by rw [hl, <- List.drop_drop, hd, List.drop_left' rfl]
 have h1 : aB acs p (aB c off v) = acs.take p ++ (c.take off ++ v ++ c.drop (off + v.length)) ++ r := by
  show acs.take p ++ aB c off v ++ acs.drop (p + (aB c off v).length) = _
  rw [h3]; rfl
 rw [h1]
 unfold aB
 have h2 : acs = acs.take p ++ (c ++ r) := by rw [<- hd, List.take_append_drop]
 have lp : (acs.take p).length = p := by simp; omega
 conv => lhs; rw [h2]
 rw [List.take_append, List.take_of_length_le (by omega), lp, Nat.add_sub_cancel_left, List.take_append_of_le_length (by omega)]
 rw [show p + off + v.length = (acs.take p).length + (off + v.length) from by omega, <- List.drop_drop, List.drop_left' rfl, List.drop_append_of_le_length hle]
 simp
theorem V.get_list' (l : List V) (n : Nat) : (V.list l).get (Int.ofNat n) = (l[n]?).getD .nil := by simp [V.get, V.bx]
theorem pE (e : E) (j : Option Nat) : (ez e j).v ρ = (e.v ρ).part j := by
 cases j with
 | none => rfl
 | some j => simp [ez, V.part, get'_v, E.i]
theorem jR (e x : E) (j : Option Nat) : (dF e x j).v ρ = (e.v ρ).put (x.v ρ) j := by
 cases j with
 | none => rfl
 | some j => simp [dF, V.put, E.v, E.i]
theorem im {t st : TypeId} {off : Nat} {j : Option Nat} (hp : partAt P t off st = some j) : (j = none /\ off = 0 /\ st = t) \/ ∃ k f fields, j = some k /\ P.underlying t = some (.struct fields) /\ fields.toList[k]? = some f /\ f.offset = off /\ f.type = st := by
 unfold partAt at hp
 cases hb : (Nat.beq off 0 && Nat.beq st t) with
 | true =>
  rw [hb] at hp
  simp only [cond_true, Option.some.injEq] at hp
  simp only [Bool.and_eq_true] at hb
  exact .inl ⟨hp.symm, beq_tt' hb.1, beq_tt' hb.2⟩
 | false =>
  rw [hb] at hp
  simp only [cond_false] at hp
  split at hp
  ·rename_i fields hu
   split at hp
   ·rename_i k f hf
    obtain ⟨ht, hp⟩ := cond_ok' hp
    cases hp
    obtain ⟨_, h2, h3⟩ := lN hf
    exact .inr ⟨k, f, fields, rfl, hu, by simpa using h2, h3, beq_tt' ht⟩
   ·cases hp
  ·cases hp
theorem dA {t st : TypeId} {off : Nat} {j : Option Nat} {sz : Nat} {l : List V} {cs : List AV} {F : List Nat} (hp : partAt P t off st = some j) (g : di sz (OV P h deep t) l cs F) {m : Nat} (hm : m < l.length) :
  ∃ d c r F1 G F2, 11 <= d /\ d <= 12 /\ cs.drop (m * sz + off) = c ++ r /\ off + c.length <= sz /\ F = F1 ++ G ++ F2 /\ OV P h d st (((V.list l).get (Int.ofNat m)).part j) c G /\ (((V.list l).get (Int.ofNat m)).put (((V.list l).get (Int.ofNat m)).part j) j = (V.list l).get (Int.ofNat m)) /\ (∀ x y : V, (((V.list l).get (Int.ofNat m)).put x j).put y j = ((V.list l).get (Int.ofNat m)).put y j) /\
   ∀ {h' : ah} {y : V} {c' : List AV} {G' : List Nat}, gD h h' (F1 ++ F2) -> OV P h' d st y c' G' -> di sz (OV P h' deep t) (l.set m (((V.list l).get (Int.ofNat m)).put y j)) (aB cs (m * sz + off) c') (F1 ++ G' ++ F2) := by
 have hx : l[m]? = some l[m] := List.getElem?_eq_getElem hm
 have hv : (V.list l).get (Int.ofNat m) = l[m] := by rw [V.get_list', hx]; rfl
 rw [hv]
 obtain ⟨c, r, F1, G, F2, w1, w2, w3, w4, w5⟩ := g.focus hx
 have hlen := g.length
 have hmle : (m + 1) * sz <= l.length * sz := Nat.mul_le_mul_right _ hm
 rw [Nat.succ_mul] at hmle
 rcases im hp with ⟨rfl, rfl, rfl⟩ | ⟨k, f, fields, rfl, hu, hf, ho, hft⟩
 ·refine ⟨12, c, r, F1, G, F2, by omega, by omega, by simpa using w1, by omega, w3, w4, rfl, fun _ _ => rfl, ?_⟩
  intro h' y c' G' hs hy
  have hl : c'.length = sz := by
   have l1 := w4.length; have l2 := hy.length
   rw [l1] at l2; simp at l2; omega
  exact w5 (R' := OV P h' deep _) (fun x c K hK q => q.frame fun a ha => hs a (hK a ha)) hl hy
 ·have w4' := w4
  obtain ⟨g0, w4'⟩ := w4'
  rw [hu] at w4'
  simp only at w4'
  obtain ⟨xs, x1, x2⟩ := w4'
  obtain ⟨x, c1, r1, B1, K, B2, y0, y1, y2, y3, y4, y5, y6⟩ := x2.focus hf
  rw [ho, Nat.sub_zero] at y2 y5
  have hxk : xs[k]? = some x := y0
  have hpart : l[m].part (some k) = x := by
   rw [x1]; simp only [V.part, V.get_list', hxk]; rfl
  have hput : ∀ y, l[m].put y (some k) = .list (xs.set k y) := by
   intro y; rw [x1]; simp [V.put, V.set, V.bx]
  refine ⟨11, c1, r1 ++ r, F1 ++ B1, K, B2 ++ F2, by omega, by omega, ?_, by omega, by rw [w3, y3]; simp, by rw [hpart, <- hft]; exact y4, ?_, ?_, ?_⟩
  ·rw [<- List.drop_drop, w1, List.drop_append_of_le_length (by omega), y2, List.append_assoc]
  ·rw [hput, hpart, x1]
   congr 1
   obtain ⟨hk, hx⟩ := List.getElem?_eq_some_iff.1 hxk
   rw [<- hx]; simp
  ·intro a b
   rw [hput, hput]
   simp [V.put, V.set, V.bx]
  ·intro h' y c' G' hs hy
   have hl : c'.length = c1.length := by
    have l1 := y4.length; have l2 := hy.length
    rw [hft] at l1
    rw [l1] at l2; simpa using l2.symm
   have k1 := y6 (R' := OV P h' 11) (y := y) (c' := c') (G' := G') (fun t x c K hK q => q.frame fun a ha => hs a (by have := hK a ha; simp at this ⊢; rcases this with h | h <;> simp [h])) hl (by rw [hft]; exact hy)
   rw [ho, Nat.sub_zero] at k1
   have hspl : (aB c off c').length = c.length := by unfold aB; simp; omega
   have k2 : OV P h' deep t (l[m].put y (some k)) (aB c off c') (B1 ++ G' ++ B2) := by
    refine ⟨by rw [hspl]; exact g0, ?_⟩
    rw [hu]
    exact ⟨_, hput y, k1⟩
   have k3 := w5 (R' := OV P h' deep t) (fun x c K hK q => q.frame fun a ha => hs a (by have := hK a ha; simp at this ⊢; rcases this with h | h <;> simp [h])) (by rw [hspl]; exact w2) k2
   rw [jx w1 (by omega) (by omega)]
   have : F1 ++ B1 ++ G' ++ (B2 ++ F2) = F1 ++ (B1 ++ G' ++ B2) ++ F2 := by simp
   rw [this]; exact k3
end
end Go.Sym
namespace Go.Sym
open Go Go.a9
theorem aj {α : Type} {b : Bool} {x : Option α} {a : α} (e : cond b x none = some a) : b = true /\ x = some a := by
 cases b with
 | false => cases e
 | true => exact ⟨rfl, e⟩
def bo (ρ : Env) (l : List E) : Prop := ∀ c ∈ l, c.b ρ = true
theorem bo.append {ρ : Env} {a b : List E} : bo ρ (a ++ b) ↔ bo ρ a /\ bo ρ b := by
 unfold bo; simp only [List.mem_append]
 exact ⟨fun h => ⟨fun c hc => h c (.inl hc), fun c hc => h c (.inr hc)⟩, fun h c hc => hc.elim (h.1 c) (h.2 c)⟩
theorem cA {ρ : Env} {c : E} : bo ρ (ask c) ↔ c.b ρ = true := by
 unfold ask bo; split <;> simp [E.b]
theorem ew {ρ : Env} {i n : E} : bo ρ (mC i n) ↔ 0 <= i.i ρ /\ i.i ρ < n.i ρ := by
 unfold mC; rw [cA, and'_b, le'_b, lt'_b]; simp only [Bool.and_eq_true, ao, aD]; exact Iff.rfl
section
variable {P : Program} {h : ah} {H : Hid} {ρ : Env}
theorem tT : ∀ {n : Nat} {x : List SV} {y : List AV} {r : List SV}, cB P h H ρ x y -> tU n x = some r -> ∃ s, takeN n y = some s /\ cB P h H ρ r s
 | 0, x, y, r, g, e => by simp [tU] at e; subst e; exact ⟨[], rfl, .nil⟩
 | n + 1, [], y, r, g, e => by simp [tU] at e
 | n + 1, a :: x, y, r, g, e => by
  cases g with
  | cons g1 g2 =>
   simp only [tU, Option.map_eq_some_iff] at e
   obtain ⟨r', e1, rfl⟩ := e
   obtain ⟨s', e2, k⟩ := tT g2 e1
   exact ⟨_, by simp [takeN, e2], .cons g1 k⟩
theorem cw {t : TypeId} {x : List SV} {y : List AV} {v : SV} (g : cB P h H ρ x y) (e : eu P t x = some v) : ∃ u, gk P t y = some u /\ SD P h H ρ v u := by
 unfold eu at e
 unfold gk
 split at e
 ·rename_i ht
  rw [ht]
  simp only
  split at e
  ·rename_i n hn
   rw [hn]
   simp only [Option.map_eq_some_iff] at e ⊢
   obtain ⟨r, e1, rfl⟩ := e
   obtain ⟨s, e2, k⟩ := tT g e1
   exact ⟨.agg s, ⟨s, e2, rfl⟩, .agg k⟩
  ·cases e
 ·rename_i ht
  rw [ht]
  simp only
  split at e
  ·cases g with | cons g1 g2 => simp at e; subst e; exact ⟨_, rfl, g1⟩
  ·cases e
 ·cases e
theorem V.gY (l : List V) (n : Nat) : (V.list l).get (Int.ofNat n) = (l[n]?).getD .nil := by simp [V.get, V.bx]
theorem dC {way : Nat -> PA} : ∀ {f : Nat} {t : TypeId} {e : E} {off : Nat} {svs : List SV} {c : List AV} {d : Nat}, d <= deep -> PV P h H.S d t (e.v ρ) c -> cellsOf P way f t e off = some svs ->
  (∀ k av, c[k]? = some av -> fq h H ρ (way (off + k)) = some av) -> cB P h H ρ svs c := by
 intro f
 induction f with
 | zero => intro t e off svs c d hd g k; simp [cellsOf] at k
 | succ f ih =>
  intro t e off svs c d hd g k hw
  cases d with
  | zero => exact g.elim
  | succ d =>
  obtain ⟨g0, g⟩ := g
  unfold cellsOf at k
  split at k
  ·rename_i hu
   rw [hu] at g
   simp only at g
   simp at k; subst k
   obtain ⟨n, h1, rfl⟩ := g
   have : n = e.toI'.i ρ := by rw [toI'_i, h1]; rfl
   rw [this]
   exact .cons (.int _ _) .nil
  ·rename_i hu
   rw [hu] at g
   simp only at g
   simp at k; subst k
   obtain ⟨n, h1, rfl⟩ := g
   have : n = e.toB'.b ρ := by rw [toB'_b, h1]; rfl
   rw [this]
   exact .cons (.bool _) .nil
  ·rename_i hu
   rw [hu] at g
   simp only at g
   simp at k; subst k
   obtain ⟨n, h1, rfl⟩ := g
   exact .cons (.str h1) .nil
  ·rename_i et hu
   rw [hu] at g
   simp only at g
   simp at k; subst k
   obtain ⟨av, sz, rfl, h1, h2, h3⟩ := g
   exact .cons (.pure (hw 0 av rfl) h1 h2 (h3.imp (fun _ _ q => q.le (by omega)) fun b hb => ⟨hb, fun _ e => e⟩)) .nil
  ·rename_i fields hu
   rw [hu] at g
   simp only at g
   obtain ⟨xs, h1, h2⟩ := g
   have key : ∀ (fs : List Field) (j pos : Nat) (pre ys : List V) (cs : List AV) (svs : List SV), xs = pre ++ ys -> pre.length = j -> pZ P (PV P h H.S d) fs pos ys cs ->
     (fs.zipIdx j).foldr (fun (x : Field × Nat) r => match cellsOf P way f x.1.type (e.get' (.il (Int.ofNat x.2))) (off + x.1.offset), r with | some x, some y => some (x ++ y) | _, _ => none) (some []) = some svs ->
     (∀ k av, cs[k]? = some av -> fq h H ρ (way (off + pos + k)) = some av) -> cB P h H ρ svs cs := by
    intro fs
    induction fs with
    | nil =>
     intro j pos pre ys cs svs _ _ g k _
     obtain ⟨_, rfl⟩ := g
     simp at k; subst k; exact .nil
    | cons fd fs ihf =>
     intro j pos pre ys cs svs hx hp g k hw
     obtain ⟨x, ys', c1, r, rfl, rfl, ho, ga, gb⟩ := g
     rw [List.zipIdx_cons, List.foldr_cons] at k
     split at k
     ·rename_i s1 s2 e1 e2
      simp at k; subst k
      have hv : (e.get' (.il (Int.ofNat j))).v ρ = x := by
       rw [get'_v, h1, hx]
       show (V.list (pre ++ x :: ys')).get (Int.ofNat j) = x
       rw [V.gY, <- hp]; simp
      refine .append (ih (d := d) (by omega) (by rw [hv]; exact ga) e1 ?_) (ihf (j + 1) (pos + c1.length) (pre ++ [x]) ys' r s2 (by simp [hx]) (by simp [hp]) gb e2 ?_)
      ·intro k av hk
       have := hw k av (by
        rw [List.getElem?_append_left]
        ·exact hk
        ·exact (List.getElem?_eq_some_iff.1 hk).1)
       rw [ho]; exact this
      ·intro k av hk
       have := hw (c1.length + k) av (by rw [List.getElem?_append_right (by omega), Nat.add_sub_cancel_left]; exact hk)
       rw [show off + (pos + c1.length) + k = off + pos + (c1.length + k) from by omega]
       exact this
     ·cases k
   refine key fields.toList 0 0 [] xs c svs rfl rfl h2 k ?_
   simpa using hw
  ·rename_i n et hu
   rw [hu] at g
   simp only at g
   obtain ⟨xs, sz, h1, h2, h3, h4⟩ := g
   split at k
   ·rename_i s hs
    rw [h3] at hs; cases hs
    have key : ∀ (m j : Nat) (pre ys : List V) (cs : List AV) (svs : List SV), xs = pre ++ ys -> pre.length = j -> ys.length = m -> bQ sz (PV P h H.S d et) ys cs ->
      (List.range' j m).foldr (fun (j : Nat) r => match cellsOf P way f et (e.get' (.il (Int.ofNat j))) (off + j * sz), r with | some x, some y => some (x ++ y) | _, _ => none) (some []) = some svs ->
      (∀ k av, cs[k]? = some av -> fq h H ρ (way (off + j * sz + k)) = some av) -> cB P h H ρ svs cs := by
     intro m
     induction m with
     | zero =>
      intro j pre ys cs svs _ _ hl g k _
      have : ys = [] := List.length_eq_zero_iff.1 hl
      subst this
      cases g
      simp at k; subst k; exact .nil
     | succ m ihm =>
      intro j pre ys cs svs hx hp hl g k hw
      cases ys with
      | nil => simp at hl
      | cons x ys =>
      obtain ⟨c1, r, rfl, hz, ga, gb⟩ := g
      rw [List.range'_succ, List.foldr_cons] at k
      split at k
      ·rename_i s1 s2 e1 e2
       simp at k; subst k
       have hv : (e.get' (.il (Int.ofNat j))).v ρ = x := by
        rw [get'_v, h1, hx]
        show (V.list (pre ++ x :: ys)).get (Int.ofNat j) = x
        rw [V.gY, <- hp]; simp
       refine .append (ih (d := d) (by omega) (by rw [hv]; exact ga) e1 ?_) (ihm (j + 1) (pre ++ [x]) ys r s2 (by simp [hx]) (by simp [hp]) (by simpa using hl) gb e2 ?_)
       ·intro k av hk
        exact hw k av (by
         rw [List.getElem?_append_left]
         ·exact hk
         ·exact (List.getElem?_eq_some_iff.1 hk).1)
       ·intro k av hk
        have := hw (c1.length + k) av (by rw [List.getElem?_append_right (by omega), Nat.add_sub_cancel_left]; exact hk)
        rw [show off + (j + 1) * sz + k = off + j * sz + (c1.length + k) from by rw [Nat.succ_mul]; omega]
        exact this
      ·cases k
    rw [List.range_eq_range'] at k
    refine key n 0 [] xs c svs rfl rfl h2 h4 k ?_
    simpa using hw
   ·cases k
  ·cases k
theorem PV.rE {t : TypeId} {sz : Nat} {l : List V} {cs : List AV} (hz : aA P t = some sz) (g : bQ sz (PV P h H.S deep t) l cs) {i : Nat} (hi : i < l.length) : ∃ c r, cs.drop (i * sz) = c ++ r /\ c.length = sz /\ PV P h H.S deep t ((V.list l).get (Int.ofNat i)) c := by
 obtain ⟨c, r, e, hl, k⟩ := g.get i l[i] (by simp [hi])
 exact ⟨c, r, e, hl, by rw [V.gY]; simpa [hi] using k⟩
theorem dO {i : Int} {n : Nat} (h0 : 0 <= i) (h1 : i < n) : ∃ m : Nat, i = Int.ofNat m /\ m < n /\ i.toNat = m := ⟨i.toNat, by simp; omega, by omega, rfl⟩
theorem yZ {h0 : ah} {sh : ae} (R : HR P h0 h H ρ sh) {b : Nat} {i e : E} {svs : List SV} (k : elemOf P sh b i = some (svs, e)) (hi : 0 <= i.i ρ /\ i.i ρ < e.len'.i ρ) :
  ∃ a len sz acs c r, H.ν b = some (.nN a len sz) /\ h.get a = some (.cells acs) /\ acs.drop ((i.i ρ).toNat * sz) = c ++ r /\ cB P h H ρ svs c := by
 unfold elemOf at k
 rw [len'_i] at hi
 split at k
 ·rename_i et e0 ib hg
  split at k
  ·rename_i sz hz
   simp only [Option.map_eq_some_iff] at k
   obtain ⟨cs, k1, k2⟩ := k
   simp only [Prod.mk.injEq] at k2
   obtain ⟨rfl, rfl⟩ := k2
   have ho := R.bj _ _ hg
   cases ho with
   | iA q1 q2 _ _ => rw [q1] at hi; simp [V.len, V.bx] at hi; omega
   | arr q1 q2 q3 q4 =>
    rename_i a len sz' l acs
    have hz' := q3.size
    rw [hz] at hz'; cases hz'
    rw [q1] at hi
    obtain ⟨m, hm1, hm2, hm3⟩ := dO hi.1 hi.2
    obtain ⟨c, r, hc, hl, hp⟩ := PV.rE q3.size q3.row hm2
    refine ⟨a, len, sz, acs, c, r, q2, q3.get, by rw [hm3]; exact hc, dC (Nat.le_refl _) (by rw [get'_v, q1, hm1]; exact hp) k1 ?_⟩
    intro k av hk
    simp only [fq, q4, hm3]
    have : (acs.drop (m * sz))[k]? = some av := by rw [hc, List.getElem?_append_left (List.getElem?_eq_some_iff.1 hk).1]; exact hk
    rw [List.getElem?_drop] at this
    simpa using this
  ·cases k
 ·rename_i et e0 n hg
  split at k
  ·rename_i sz hz
   simp only [Option.map_eq_some_iff] at k
   obtain ⟨cs, k1, k2⟩ := k
   simp only [Prod.mk.injEq] at k2
   obtain ⟨rfl, rfl⟩ := k2
   have ho := R.bj _ _ hg
   cases ho with
   | ic _ _ q1 q2 => rw [q1] at hi; simp [V.len, V.bx] at hi; omega
   | dK q1 q2 q3 q4 q5 =>
    rename_i a len sz' l acs
    have hz' := q3.size
    rw [hz] at hz'; cases hz'
    rw [q1] at hi
    obtain ⟨m, hm1, hm2, hm3⟩ := dO hi.1 hi.2
    obtain ⟨c, r, hc, hl, hp⟩ := PV.rE q3.size q3.row hm2
    refine ⟨a, len, sz, acs, c, r, q2, q3.get, by rw [hm3]; exact hc, dC (Nat.le_refl _) (by rw [get'_v, q1, hm1]; exact hp) k1 ?_⟩
    intro k av hk
    simp only [fq, q5, hm3]
    have : (acs.drop (m * sz))[k]? = some av := by rw [hc, List.getElem?_append_left (List.getElem?_eq_some_iff.1 hk).1]; exact hk
    rw [List.getElem?_drop] at this
    simp [nK, q4, q3.get]
    simpa using this
  ·cases k
 ·cases k
theorem nT : ∀ {n : Nat} {c r s : List AV}, takeN n c = some s -> takeN n (c ++ r) = some s
 | 0, _, _, _, e => e
 | n + 1, [], _, _, e => by simp [takeN] at e
 | n + 1, a :: c, r, s, e => by
  simp only [takeN, Option.map_eq_some_iff, List.cons_append] at e ⊢
  obtain ⟨s', e1, e2⟩ := e
  exact ⟨s', nT e1, e2⟩
theorem jC {t : TypeId} {c r : List AV} {u : AV} (e : gk P t c = some u) : gk P t (c ++ r) = some u := by
 unfold gk at e ⊢
 cases ht : bB P t with
 | none => rw [ht] at e; cases e
 | some b =>
  rw [ht] at e
  cases b with
  | true =>
   simp only at e ⊢
   split at e
   ·simp only [Option.map_eq_some_iff] at e ⊢
    obtain ⟨s, e1, e2⟩ := e
    exact ⟨s, nT e1, e2⟩
   ·cases e
  | false =>
   simp only at e ⊢
   cases c with
   | nil => cases e
   | cons a c => exact e
theorem PV.BC : ∀ {d d' : Nat} {t : TypeId} {x : V} {cs : List AV} {S : Nat -> Prop}, bA P d t = false -> PV P h S d' t x cs -> ∀ a ∈ cs, a ≠ .aV
 | 0, _, _, _, _, _, e, _ => by simp [bA] at e
 | d + 1, 0, _, _, _, _, _, g => g.elim
 | d + 1, d' + 1, t, x, cs, S, e, g => by
  obtain ⟨g0, g⟩ := g
  unfold bA at e
  split at g
  ·obtain ⟨n, _, rfl⟩ := g; simp
  ·obtain ⟨n, _, rfl⟩ := g; simp
  ·obtain ⟨n, _, rfl⟩ := g; simp
  ·rename_i hu; rw [hu] at e; simp at e
  ·rename_i fields hu
   rw [hu] at e
   simp only [List.any_eq_false] at e
   obtain ⟨xs, a, b⟩ := g
   generalize fields.toList = fs at e b
   have key : ∀ (fs : List Field) (pos : Nat) (xs : List V) (cs : List AV), (∀ f ∈ fs, ¬ bA P d f.type = true) -> pZ P (PV P h S d') fs pos xs cs -> ∀ a ∈ cs, a ≠ .aV := by
    intro fs
    induction fs with
    | nil => intro _ _ _ _ g; obtain ⟨_, rfl⟩ := g; simp
    | cons f fs ih =>
     intro pos xs cs hf g
     obtain ⟨x, ys, c, r, e1, e2, o, a, b⟩ := g
     intro v hv
     rw [e2, List.mem_append] at hv
     rcases hv with hv | hv
     ·exact PV.BC (by simpa using hf f (by simp)) a v hv
     ·exact ih _ _ _ (fun g hg => hf g (by simp [hg])) b v hv
   exact key _ _ _ _ e b
  ·rename_i n et hu
   rw [hu] at e
   obtain ⟨xs, sz, a, b, c, k⟩ := g
   exact k.all fun _ _ q => PV.BC e q
  ·exact g.elim
theorem SD.flat {H' : Hid} {x : SV} {u : AV} (e : BV x = true) (g : SD P h H ρ x u) : SD P h H' ρ x u := by
 have one : ∀ {y : SV} {w : AV}, (match y with | .bool _ | .int _ _ | .str _ => true | _ => false) = true -> SD P h H ρ y w -> SD P h H' ρ y w := by
  intro y w e g
  cases g <;> first | cases e | skip
  ·exact .bool _
  ·exact .int _ _
  ·rename_i q; exact .str q
 have many : ∀ {x : List SV} {u : List AV}, (x.all fun | .bool _ | .int _ _ | .str _ => true | _ => false) = true -> cB P h H ρ x u -> cB P h H' ρ x u := by
  intro x
  induction x with
  | nil => intro u _ g; cases g; exact .nil
  | cons a x ih =>
   intro u e g
   cases g with
   | cons g1 g2 =>
    simp only [List.all_cons, Bool.and_eq_true] at e
    exact .cons (one e.1 g1) (ih e.2 g2)
 by_cases hb : ∃ l, x = .agg l
 ·obtain ⟨l, rfl⟩ := hb
  cases g with | agg g => exact .agg (many e g)
 ·have : x.cells = [x] := by cases x <;> first | rfl | exact absurd ⟨_, rfl⟩ hb
  unfold BV at e
  rw [this] at e
  simp only [List.all_cons, List.all_nil, Bool.and_true] at e
  exact one e g
theorem vG {t : TypeId} (e : jW P t = true) : bB P t = some false := by
 unfold jW at e
 split at e
 ·rename_i hu; simp [bB, hu]
 ·cases e
theorem mj.view {c : Nat} {av : AV} (g : mj H c av) : SD P h H ρ (.view c) av := by
 rcases g with ⟨a, rfl⟩ | ⟨a, len, sz, b, rfl⟩
 ·exact .cu a
 ·exact .view b
theorem V.yR (x y : V) {j k : Nat} (hn : k ≠ j) : (x.set (Int.ofNat k) y).get (Int.ofNat j) = x.get (Int.ofNat j) := by
 simp only [V.get, V.set, V.bx, Int.ofNat_eq_natCast, Int.toNat_natCast]
 rw [List.getElem?_set_ne hn]
theorem u4 {h0 : ah} {sh : ae} (R : HR P h0 h H ρ sh) {t : TypeId} {b : Nat} {i : E} {off : Nat} {v : SV} {l : List E} {u : AV} (g : SD P h H ρ (.bI b i off) u) (e : rP P sh t b i off = some (v, l)) (hl : bo ρ l) :
  ∃ w, fE P h t u = some w /\ SD P h H ρ v w := by
 unfold rP at e
 split at e
 case h_4 => cases e
 case h_3 =>
  rename_i et et2 e0 i1 c1 i2 c2 hg
  cases hc : (Nat.beq off 0 && Nat.beq et t) with
  | false => rw [hc] at e; cases e
  | true =>
  rw [hc, cond_true] at e
  simp only [Bool.and_eq_true] at hc
  obtain ⟨h2, h3⟩ := hc
  have h2 := aq h2
  have h3 := aq h3
  subst h2; subst h3
  have ho := R.bj _ _ hg
  cases ho with
  | dh q1 q2 q3 q4 q5 q6 q7 q8 =>
   rename_i m m2 a len ls acs
   obtain ⟨q51, q52, _, _, _⟩ := q5
   have fin : ∀ {k c : Nat}, i.i ρ = Int.ofNat k -> (∃ av, acs[k]? = some av /\ mj H c av) -> ∃ w, fE P h et u = some w /\ SD P h H ρ (.view c) w := by
    intro k c hk ⟨av, k1, k2⟩
    cases g with
    | bI q =>
     rw [q2] at q; cases q
     rw [hk]
     refine ⟨av, ?_, k2.view⟩
     simp only [fE, a9.rowAt, q3.get]
     unfold gk
     have hag : bB P et = some false := by simp [bB, q4]
     rw [hag]
     have hlt := (List.getElem?_eq_some_iff.1 k1).1
     simp only [Int.ofNat_eq_natCast, Int.toNat_natCast, Nat.mul_one, Nat.add_zero]
     rw [List.drop_eq_getElem_cons hlt]
     rw [List.getElem?_eq_getElem hlt] at k1
     simpa using k1
   cases hd1 : decide (i = i1) with
   | true =>
    rw [hd1] at e
    cases e
    have : i = i1 := of_decide_eq_true hd1
    subst this
    exact fin q51 q6
   | false =>
    rw [hd1] at e
    simp only [cond_false] at e
    cases hd2 : decide (i = i2) with
    | false => rw [hd2] at e; cases e
    | true =>
    rw [hd2, cond_true] at e
    cases e
    have : i = i2 := of_decide_eq_true hd2
    subst this
    exact fin q52 q7
 case h_2 =>
  rename_i et et2 e0 i' c hg
  obtain ⟨hc, e⟩ := aj e
  cases e
  simp only [Bool.and_eq_true, decide_eq_true_eq] at hc
  obtain ⟨⟨rfl, h2⟩, h3⟩ := hc
  have h2 := aq h2
  have h3 := aq h3
  subst h2; subst h3
  have ho := R.bj _ _ hg
  cases ho with
  | dW q1 q2 q3 q4 q5 q6 q7 q8 q9 q10 =>
   obtain ⟨av, k1, k2⟩ := q9
   cases g with
   | bI q =>
    rw [q2] at q; cases q
    rw [q7]
    refine ⟨av, ?_, k2.view⟩
    simp only [fE, a9.rowAt, q6]
    unfold gk
    have hag : bB P et = some false := by simp [bB, q4.1]
    rw [hag]
    have hlt := (List.getElem?_eq_some_iff.1 k1).1
    simp only [Int.ofNat_eq_natCast, Int.toNat_natCast, Nat.mul_one, Nat.add_zero]
    rw [List.drop_eq_getElem_cons hlt]
    rw [List.getElem?_eq_getElem hlt] at k1
    simpa using k1
 rename_i et e0 hole hg
 split at e
 case h_2 => cases e
 rename_i j hj
 have ho := R.bj _ _ hg
 cases hsl : bA P deep t with
 | true =>
  rw [hsl] at e
  simp only [cond_true] at e
  split at e
  ·rename_i i' off' st c
   obtain ⟨hc, e⟩ := aj e
   cases e
   simp only [Bool.and_eq_true, decide_eq_true_eq] at hc
   obtain ⟨⟨⟨rfl, h2⟩, h3⟩, h4⟩ := hc
   have h2 := aq h2
   have h3 := aq h3
   subst h2; subst h3
   cases ho with
   | jf q1 q2 q3 q4 q5 =>
    obtain ⟨av, k1, k2⟩ := q4.ya
    cases g with
    | bI q6 =>
     rw [q2] at q6; cases q6
     rw [q4.ix]
     refine ⟨av, ?_, k2.view⟩
     simp only [fE, a9.rowAt, q3.get]
     unfold gk
     rw [vG h4]
     have hlt := (List.getElem?_eq_some_iff.1 k1).1
     simp only [Int.ofNat_eq_natCast, Int.toNat_natCast]
     rw [List.drop_eq_getElem_cons hlt]
     rw [List.getElem?_eq_getElem hlt] at k1
     simpa using k1
  ·cases e
 | false =>
  rw [hsl] at e
  simp only [cond_false] at e
  obtain ⟨hbe, e⟩ := aj e
  split at e
  case h_2 => cases e
  rename_i cs hcs
  split at e
  case h_2 => cases e
  rename_i v' hv'
  obtain ⟨hf, e⟩ := aj e
  cases e
  have hi := ew.1 hl
  rw [len'_i] at hi
  -- cells with the value
  have fin : ∀ {a m : Nat} {acs : List AV} {x : List V} {d : Nat} {c r : List AV}, i.i ρ = Int.ofNat m -> u = .ptr a (m * (match aA P et with | some s => s | none => 0) + off) -> h.get a = some (.cells acs) -> acs.drop (m * (match aA P et with | some s => s | none => 0) + off) = c ++ r -> d <= 12 -> OV P h d t (((e0.get' i).v ρ).part j) c [] -> ∃ w, fE P h t u = some w /\ SD P h H ρ v w := by
   intro a m acs x d c r hm hu hget hd hd12 hov
   have hpv : PV P h H.S d t ((ez (e0.get' i) j).v ρ) c := by rw [pE]; exact hov.pv (by simp)
   have sds := dC (H := { H with κ := fun n => if n = 0 then c else H.κ n }) (way := fun o => .cell 0 o) hd12 hpv hcs (fun k av hk => by simpa [fq] using hk)
   obtain ⟨w, w1, w2⟩ := cw sds hv'
   refine ⟨w, ?_, w2.flat hf⟩
   rw [hu]
   simp only [fE, a9.rowAt, hget, hd]
   exact jC w1
  cases ho with
  | eH q1 _ _ _ _ => rw [q1] at hi; simp [V.len, V.bx] at hi; omega
  | tree q1 q2 q3 q4 =>
   rename_i a len sz ls acs
   rw [q1] at hi
   obtain ⟨m, hm1, hm2, hm3⟩ := dO hi.1 hi.2
   have hm2 : m < ls.length := hm2
   obtain ⟨d, c, r, F1, G, F2, d1, d2, w1, w2, w3, w4, _⟩ := dA hj q4 hm2
   have := w4.kL hsl
   subst this
   cases g with
   | bI q6 =>
    rw [q2] at q6; cases q6
    refine fin (a := a) (m := m) (acs := acs) (x := []) (d := d) (c := c) (r := r) hm1 (by rw [q3.size, hm3]) q3.get (by rw [q3.size]; exact w1) d2 ?_
    rw [get'_v, q1, hm1]; exact w4
  | jf q1 q2 q3 q4 q5 =>
   rename_i i' off' st c0 m0 j0 a len sz ls acs
   rw [q1] at hi
   obtain ⟨m, hm1, hm2, hm3⟩ := dO hi.1 hi.2
   have hm2 : m < ls.length := hm2
   obtain ⟨d, c, r, F1, G, F2, d1, d2, w1, w2, w3, w4, _⟩ := dA hj q5 (m := m) (by simpa using hm2)
   have := w4.kL hsl
   subst this
   simp only [rQ, q4.part] at hbe
   -- the value is the same
   have hval : ((V.list (ls.set m0 (((V.list ls).get (Int.ofNat m0)).put .nil j0))).get (Int.ofNat m)).part j = ((V.list ls).get (Int.ofNat m)).part j := by
    rw [V.get_list']
    by_cases hmm : m0 = m
    ·subst hmm
     rw [List.getElem?_set_self hm2]
     cases j with
     | none => simp [rF] at hbe
     | some ja =>
      cases j0 with
      | none => simp [rF] at hbe
      | some ka =>
       have hjk : ka ≠ ja := by
        intro q; subst q; simp [rF] at hbe
       simp only [Option.getD_some, V.put, V.part]
       exact V.yR _ _ hjk
    ·rw [List.getElem?_set_ne hmm, V.get_list']
   rw [hval] at w4
   -- the cells are the same
   obtain ⟨av, k1, k2⟩ := q4.ya
   have hlt := (List.getElem?_eq_some_iff.1 k1).1
   have hpv : PV P h H.S d t (((V.list ls).get (Int.ofNat m)).part j) c := w4.pv (by simp)
   have hnn := hpv.BC hsl
   have hsame : ∀ k, k < c.length -> acs[m * sz + off + k]? = c[k]? := by
    intro k hk
    have e1 : (aB acs (m0 * sz + off') [.aV])[m * sz + off + k]? = c[k]? := by
     have := congrArg (fun l => l[k]?) w1
     simp only [List.getElem?_drop] at this
     rw [this, List.getElem?_append_left hk]
    have e2 : (aB acs (m0 * sz + off') [.aV]) = acs.set (m0 * sz + off') .aV := by
     unfold aB
     rw [List.set_eq_take_append_cons_drop, if_pos hlt]; simp
    rw [e2, List.getElem?_set] at e1
    split at e1
    ·exfalso
     rename_i hq
     have : AV.aV ∈ c := List.mem_of_getElem? e1.symm
     exact hnn _ this rfl
    ·exact e1
   have hd' : ∃ r', acs.drop (m * sz + off) = c ++ r' := by
    refine ⟨acs.drop (m * sz + off + c.length), ?_⟩
    apply List.ext_getElem?
    intro k
    rw [List.getElem?_drop]
    by_cases hk : k < c.length
    ·rw [List.getElem?_append_left hk]; exact hsame k hk
    ·rw [List.getElem?_append_right (by omega), List.getElem?_drop]
     congr 1; omega
   obtain ⟨r', hd'⟩ := hd'
   cases g with
   | bI q6 =>
    rw [q2] at q6; cases q6
    refine fin (a := a) (m := m) (acs := acs) (x := []) (d := d) (c := c) (r := r') hm1 (by rw [q3.size, hm3]) q3.get (by rw [q3.size]; exact hd') d2 ?_
    rw [get'_v, q1, hm1]; exact w4
theorem ud {h0 : ah} {sh : ae} (R : HR P h0 h H ρ sh) {t : TypeId} {a v : SV} {l : List E} {u : AV} (g : SD P h H ρ a u) (e : zK P sh t a = some (v, l)) (hl : bo ρ l) :
  ∃ w, fE P h t u = some w /\ SD P h H ρ v w := by
 unfold zK at e
 split at e
 ·rename_i b off
  split at e
  ·rename_i cs hg
   simp only [Option.map_eq_some_iff] at e
   obtain ⟨v', e1, e2⟩ := e
   simp only [Prod.mk.injEq] at e2
   obtain ⟨rfl, rfl⟩ := e2
   have ho := R.bj _ _ hg
   cases ho with
   | cells q1 q2 q3 =>
    cases g with
    | addr q4 =>
     rw [q1] at q4; cases q4
     obtain ⟨w, w1, w2⟩ := cw (q3.drop off) e1
     exact ⟨w, by simp [fE, a9.rowAt, q2, w1], w2⟩
  ·cases e
 ·rename_i b i off
  split at e
  ·rename_i cs e0 hg
   obtain ⟨hb, e⟩ := aj e
   simp only [Option.map_eq_some_iff] at e
   obtain ⟨v', e1, e2⟩ := e
   simp only [Prod.mk.injEq] at e2
   obtain ⟨rfl, rfl⟩ := e2
   obtain ⟨a, len, sz, acs, c, r, q1, q2, q3, q4⟩ := yZ R hg (ew.1 hl)
   cases g with
   | bI q5 =>
    rw [q1] at q5; cases q5
    obtain ⟨w, w1, w2⟩ := cw (q4.drop off) e1
    refine ⟨w, ?_, w2⟩
    simp only [fE, a9.rowAt, q2]
    rw [<- List.drop_drop, q3]
    have hlen := q4.length
    have hb' : off < cs.length := by simpa [Nat.blt_eq] using hb
    rw [List.drop_append_of_le_length (by omega)]; exact jC w1
  ·exact u4 R g e hl
 ·rename_i t' e0 p i sz off
  split at e
  ·rename_i cs hg
   simp only [Option.map_eq_some_iff] at e
   obtain ⟨v', e1, e2⟩ := e
   simp only [Prod.mk.injEq] at e2
   obtain ⟨rfl, rfl⟩ := e2
   cases g with
   | ld q1 q2 q3 q4 =>
    rename_i s c r
    have q5 : cB P h H ρ cs c := by
     refine dC (Nat.le_refl _) q4 hg ?_
     intro k av hk
     simp only [fq, q1, Option.bind_some]
     unfold js at q2
     split at q2
     ·simp at q2; subst q2
      simp only [nY] at q3
      split at q3
      ·rename_i hS
       simp only [a9.rowAt] at q3
       split at q3
       ·rename_i acs hg2
        simp at q3
        simp only [nK, hS, if_true, hg2]
        have : (c ++ r)[k]? = some av := by rw [List.getElem?_append_left (List.getElem?_eq_some_iff.1 hk).1]; exact hk
        rw [<- q3, List.getElem?_drop] at this
        rw [<- this]; congr 1; omega
       ·cases q3
      ·cases q3
     ·simp at q2; subst q2
      simp only [nY, Option.some.injEq] at q3
      simp only [nK]
      have : (c ++ r)[k]? = some av := by rw [List.getElem?_append_left (List.getElem?_eq_some_iff.1 hk).1]; exact hk
      rw [<- q3, List.getElem?_drop] at this
      rw [<- this]; congr 1; omega
     ·cases q2
    obtain ⟨w, w1, w2⟩ := cw q5 e1
    exact ⟨w, by simp [fE, Bq q3, jC w1], w2⟩
  ·cases e
 ·simp only [Option.map_eq_some_iff] at e
  obtain ⟨v', e1, e2⟩ := e
  simp only [Prod.mk.injEq] at e2
  obtain ⟨rfl, rfl⟩ := e2
  cases g with
  | gp q =>
   obtain ⟨w, w1, w2⟩ := cw q e1
   exact ⟨w, by simp [fE, a9.rowAt, w1], w2⟩
 ·cases e
end
end Go.Sym
namespace Go.Sym
open Go Go.a9
theorem Cx {k : IntKind} {n : Int} (h1 : lo k <= n) (h2 : n <= hi k) : k.wrap n = n := by
 cases k <;> simp [lo, hi, IntKind.wrap, IntKind.bits, IntKind.signed] at * <;> omega
theorem kA {ρ : Env} {w : Bool} {k : IntKind} {e : E} (h : bo ρ (fit w k e).2) : (fit w k e).1.i ρ = k.wrap (e.i ρ) := by
 unfold fit at h ⊢
 split
 ·simp [E.i]
 ·cases w with
  | true => simp [E.i]
  | false =>
   rename_i hne
   simp only [cond_false] at h ⊢
   have := h _ (List.mem_singleton.2 rfl)
   simp only [E.b, E.i, Bool.and_eq_true, ao] at this
   exact (Cx this.1 this.2).symm
section
variable {P : Program} {h : ah} {H : Hid} {ρ : Env}
theorem wJ {w : Bool} {op : BinOp} {k : IntKind} {a b : E} {v : SV} {l : List E} (e : vg w op k a b = some (v, l)) (hl : bo ρ l) :
  ∃ u, ju op k (a.i ρ) (b.i ρ) = some u /\ SD P h H ρ v u := by
 have hint : ∀ {k : IntKind} {e : E} {n : Int}, e.i ρ = n -> SD P h H ρ (.int k e) (.int k n) := fun h => h ▸ .int _ _
 have hbool : ∀ {e : E} {n : Bool}, e.b ρ = n -> SD P h H ρ (.bool e) (.bool n) := fun h => h ▸ .bool _
 unfold vg at e
 split at e
 ·cases e; exact ⟨_, rfl, hint (by rw [kA hl, add'_i, cZ]; rfl)⟩
 ·cases e; exact ⟨_, rfl, hint (by rw [kA hl, sub'_i, cZ]; rfl)⟩
 ·cases e; exact ⟨_, rfl, hint (by rw [kA hl, mul'_i, cZ]; rfl)⟩
 ·cases e
  rw [bo.append, cA, not'_b, eq'_b] at hl
  have h0 : ¬ b.i ρ = 0 := aI.1 (by simpa [E.i] using hl.1)
  refine ⟨.int k (iV k (Int.tdiv (a.i ρ) (b.i ρ))), by simp [ju, h0], hint (by rw [kA hl.2, cZ]; rfl)⟩
 ·cases e
  rw [cA, not'_b, eq'_b] at hl
  have h0 : ¬ b.i ρ = 0 := aI.1 (by simpa [E.i] using hl)
  exact ⟨.int k (Int.tmod (a.i ρ) (b.i ρ)), by simp [ju, h0], hint rfl⟩
 ·cases e; exact ⟨_, rfl, hbool (eq'_b _ _ _)⟩
 ·cases e; exact ⟨_, rfl, hbool (by rw [not'_b, eq'_b]; rfl)⟩
 ·cases e; exact ⟨_, rfl, hbool (by rw [lt'_b]; rfl)⟩
 ·cases e; exact ⟨_, rfl, hbool (by rw [le'_b]; rfl)⟩
 ·cases e; exact ⟨_, rfl, hbool (by rw [lt'_b]; rfl)⟩
 ·cases e; exact ⟨_, rfl, hbool (by rw [le'_b]; rfl)⟩
 ·cases e; exact ⟨_, rfl, hint rfl⟩
 ·cases e; exact ⟨_, rfl, hint rfl⟩
 ·cases e; exact ⟨_, rfl, hint rfl⟩
 ·cases e; exact ⟨_, rfl, hint rfl⟩
 ·cases e
theorem kp {h0 : ah} {sh : ae} (R : HR P h0 h H ρ sh) {x : SV} {u : AV} {t : TypeId} {e : E} (g : SD P h H ρ x u) (k : kq sh x = some (t, e)) :
  ((e.v ρ = .nil /\ u = .aV) \/ ∃ l sz, e.v ρ = .list l /\ aA P t = some sz /\ 0 < sz /\ ((∃ b off, u = .slice b off l.length sz) \/ ∃ cs, u = .bY cs l.length sz) /\ ∃ cs, elems h sz u = some (l.length, cs) /\ bQ sz (PV P h H.S deep t) l cs) := by
 have tk : ∀ {n : Nat} {cs : List AV}, n <= cs.length -> takeN n cs = some (cs.take n) := by
  intro n
  induction n with
  | zero => intro cs _; simp [takeN]
  | succ n ih => intro cs hn; cases cs with
   | nil => simp at hn
   | cons a cs => simp [takeN, ih (by simpa using hn)]
 unfold kq at k
 split at k
 ·simp at k
  obtain ⟨rfl, rfl⟩ := k
  cases g with
  | pure q1 q2 q3 q4 =>
   rename_i sz
   rcases q4 with ⟨h1, rfl⟩ | ⟨l, h1, ⟨b, off, cs, rfl, hb, hg, hl, hp⟩ | ⟨cs, l', rfl, hp⟩⟩
   ·exact .inl ⟨h1, rfl⟩
   ·refine .inr ⟨l, sz, h1, q2, q3, .inl ⟨_, _, rfl⟩, _, ?_, hp⟩
    simp only [elems, hg]
    rw [tk (by simp; omega)]; simp
   ·refine .inr ⟨l, sz, h1, q2, q3, .inr ⟨_, rfl⟩, cs.take (l.length * sz), ?_, ?_⟩
    ·simp only [elems]
     rw [tk (by rw [hp.length, List.length_append, Nat.add_mul]; omega)]; simp
    ·have := hp.take l.length
     simpa using this
 ·rename_i b
  split at k
  ·rename_i t' e' n hg
   simp at k
   obtain ⟨rfl, rfl⟩ := k
   have ho := R.bj _ _ hg
   cases ho with
   | ic _ _ q1 q2 =>
    cases g with
    | cu q => exact .inl ⟨q1, rfl⟩
    | view q => rw [q2] at q; cases q
   | dK q1 q2 q3 q4 q5 =>
    cases g with
    | cu q => rw [q2] at q; cases q
    | view q =>
     rw [q2] at q; cases q
     have hlen := q3.len
     subst hlen
     refine .inr ⟨_, _, q1, q3.size, q3.pos, .inl ⟨_, _, rfl⟩, _, ?_, q3.row⟩
     simp only [elems, q3.get]
     rw [tk (by rw [List.drop_zero, q3.row.length]; omega)]
     simp [<- q3.row.length]
  ·rename_i t' e' n hg
   simp at k
   obtain ⟨rfl, rfl⟩ := k
   have ho := R.bj _ _ hg
   cases ho with
   | iA q1 q2 _ _ =>
    cases g with
    | cu q => exact .inl ⟨q1, rfl⟩
    | view q => rw [q2] at q; cases q
   | arr q1 q2 q3 q4 =>
    cases g with
    | cu q => rw [q2] at q; cases q
    | view q =>
     rw [q2] at q; cases q
     have hlen := q3.len
     subst hlen
     refine .inr ⟨_, _, q1, q3.size, q3.pos, .inl ⟨_, _, rfl⟩, _, ?_, q3.row⟩
     simp only [elems, q3.get]
     rw [tk (by rw [List.drop_zero, q3.row.length]; omega)]
     simp [<- q3.row.length]
  ·cases k
 ·cases k
theorem pA {h0 : ah} {sh : ae} (R : HR P h0 h H ρ sh) {x : SV} {u : AV} {e : E} (g : SD P h H ρ x u) (k : lenOf sh x = some e) :
  ((e.v ρ = .nil /\ u = .aV) \/ ∃ l, e.v ρ = .list l /\ ((∃ b off sz, u = .slice b off l.length sz) \/ ∃ cs sz, u = .bY cs l.length sz)) := by
 have old : ∀ {x : SV} {u : AV}, SD P h H ρ x u -> (kq sh x).map (·.2) = some e -> ((e.v ρ = .nil /\ u = .aV) \/ ∃ l, e.v ρ = .list l /\ ((∃ b off sz, u = .slice b off l.length sz) \/ ∃ cs sz, u = .bY cs l.length sz)) := by
  intro x u g k
  simp only [Option.map_eq_some_iff] at k
  obtain ⟨r, k1, rfl⟩ := k
  obtain ⟨t, e0⟩ := r
  rcases kp R g k1 with q | ⟨l, sz, q1, _, _, ⟨b, off, rfl⟩ | ⟨cs, rfl⟩, _⟩
  ·exact .inl q
  ·exact .inr ⟨l, q1, .inl ⟨_, _, _, rfl⟩⟩
  ·exact .inr ⟨l, q1, .inr ⟨_, _, rfl⟩⟩
 unfold lenOf at k
 split at k
 ·rename_i b
  split at k
  ·rename_i t e0 hole hg
   cases k
   have ho := R.bj _ _ hg
   cases ho with
   | eH q1 q2 _ _ _ =>
    cases g with
    | cu _ => exact .inl ⟨q1, rfl⟩
    | view q => rw [q2] at q; cases q
   | tree q1 q2 q3 q4 =>
    cases g with
    | cu q => rw [q2] at q; cases q
    | view q => rw [q2] at q; cases q; exact .inr ⟨_, q1, .inl ⟨_, _, _, by rw [<- q3.len]⟩⟩
   | jf q1 q2 q3 q4 q5 =>
    cases g with
    | cu q => rw [q2] at q; cases q
    | view q => rw [q2] at q; cases q; exact .inr ⟨_, q1, .inl ⟨_, _, _, by rw [<- q3.len]⟩⟩
  ·rename_i t et0 e0 i0 c0 hg
   cases k
   have ho := R.bj _ _ hg
   cases ho with
   | dW q1 q2 q3 q4 q5 q6 q7 q8 q9 q10 =>
    cases g with
    | cu q => rw [q2] at q; cases q
    | view q => rw [q2] at q; cases q; exact .inr ⟨_, q1, .inl ⟨_, _, _, by rw [<- q5]⟩⟩
  ·rename_i t et0 e0 i0 c0 i2 c2 hg
   cases k
   have ho := R.bj _ _ hg
   cases ho with
   | dh q1 q2 q3 q4 q5 q6 q7 q8 =>
    cases g with
    | cu q => rw [q2] at q; cases q
    | view q => rw [q2] at q; cases q; exact .inr ⟨_, q1, .inl ⟨_, _, _, by rw [<- q3.len]⟩⟩
  ·exact old g k
 ·exact old g k
theorem ug {h0 : ah} {sh : ae} (R : HR P h0 h H ρ sh) : ∀ {d : Nat} {t : TypeId} {x y : SV} {a b : AV} {e : E}, uh P sh d t x y = some e -> SD P h H ρ x a -> SD P h H ρ y b -> ∀ n, d <= n -> dD P n t a b = some (e.b ρ) := by
 intro d
 induction d with
 | zero => intro t x y a b e k; exact (Option.some_ne_none _ (k.symm.trans rfl)).elim
 | succ d ih =>
  intro t x y a b e k g1 g2 n hn
  obtain ⟨n, rfl⟩ : ∃ m, n = m + 1 := ⟨n - 1, by omega⟩
  unfold uh at k
  unfold dD
  cases hu : P.underlying t with
  | none => rw [hu] at k; cases k
  | some td =>
  rw [hu] at k
  cases td <;> simp only at k ⊢ <;> first | (cases k; done) | skip
  case bool =>
   split at k
   ·cases k; cases g1; cases g2; rfl
   ·cases k
  case int =>
   split at k
   ·obtain ⟨hj, k⟩ := aj k
    cases k; cases g1; cases g2
    simp only [decide_eq_true_eq] at hj
    subst hj
    simp [eq'_b, AS]
   ·cases k
  case string =>
   split at k
   ·cases k
    cases g1 with | str q1 => cases g2 with | str q2 => simp [E.b, q1, q2, V.Er, DX]
   ·cases k
  case pointer =>
   split at k
   ·cases k; cases g1; cases g2; rfl
   ·cases k; cases g1; cases g2; rfl
   ·cases k; cases g1; cases g2; rfl
   ·cases k
  case interface =>
   split at k
   ·cases k; cases g1; cases g2; rfl
   ·cases k; cases g1; cases g2; rfl
   ·cases k; cases g1; cases g2; rfl
   ·cases k
  case struct fields =>
   split at k
   ·rename_i xs ys
    cases g1 with | agg g1 => cases g2 with | agg g2 =>
    rename_i u v
    simp only
    cases hs : P.stoodInHeld t with
    | true => rw [hs] at k; cases k
    | false =>
     rw [hs] at k
     simp only [cond_false] at k ⊢
     generalize fields.toList = fs at k ⊢
     induction fs generalizing e with
     | nil => simp at k; subst k; simp [E.b]
     | cons f fs ihf =>
      simp only [List.foldr_cons] at k ⊢
      by_cases hname : f.name = "_"
      ·simp only [hname, decide_true, cond_true] at k ⊢; exact ihf k
      ·simp only [hname, decide_false, cond_false] at k ⊢
       split at k
       ·rename_i p q r e1 e2 e3
        split at k
        ·rename_i c hc
         cases k
         obtain ⟨p', w1, w2⟩ := cw (g1.drop f.offset) e1
         obtain ⟨q', w3, w4⟩ := cw (g2.drop f.offset) e2
         have hr := ihf e3
         have hq := ih hc w2 w4 n (by omega)
         have w1' : eD P f.type u f.offset = some p' := w1
         have w3' : eD P f.type v f.offset = some q' := w3
         simp only [w1', w3', hq, hr, and'_b]
         cases c.b ρ <;> simp
        ·cases k
       ·cases k
   ·cases k
  case array len elem =>
   split at k
   ·rename_i xs ys
    cases g1 with | agg g1 => cases g2 with | agg g2 =>
    rename_i u v
    simp only
    split at k
    ·rename_i sz hs
     rw [hs]
     simp only
     generalize List.range len = fs at k ⊢
     induction fs generalizing e with
     | nil => simp at k; subst k; simp [E.b]
     | cons f fs ihf =>
      simp only [List.foldr_cons] at k ⊢
      split at k
      ·rename_i p q r e1 e2 e3
       split at k
       ·rename_i c hc
        cases k
        obtain ⟨p', w1, w2⟩ := cw (g1.drop (f * sz)) e1
        obtain ⟨q', w3, w4⟩ := cw (g2.drop (f * sz)) e2
        have hr := ihf e3
        have hq := ih hc w2 w4 n (by omega)
        have w1' : eD P elem u (f * sz) = some p' := w1
        have w3' : eD P elem v (f * sz) = some q' := w3
        simp only [w1', w3', hq, hr, and'_b]
        cases c.b ρ <;> simp
       ·cases k
      ·cases k
    ·cases k
   ·cases k
  case slice elem =>
   split at k
   ·cases k; cases g1; cases g2; rfl
   ·simp only [Option.map_eq_some_iff] at k
    obtain ⟨r, k1, rfl⟩ := k
    cases g1
    rcases pA R g2 k1 with ⟨q1, rfl⟩ | ⟨l, q1, ⟨b, off, sz, rfl⟩ | ⟨cs, sz, rfl⟩⟩ <;> simp [E.b, q1, V.isNil]
   ·simp only [Option.map_eq_some_iff] at k
    obtain ⟨r, k1, rfl⟩ := k
    cases g2
    rcases pA R g1 k1 with ⟨q1, rfl⟩ | ⟨l, q1, ⟨b, off, sz, rfl⟩ | ⟨cs, sz, rfl⟩⟩ <;> simp [E.b, q1, V.isNil]
   ·cases k
  case func =>
   split at k
   ·cases k; cases g1; cases g2; rfl
   ·cases k; cases g1; cases g2; rfl
   ·cases k; cases g1; cases g2; rfl
   ·cases k
end
end Go.Sym
namespace Go.Sym
open Go Go.a9
section
variable {P : Program} {h : ah} {H : Hid} {ρ : Env}
theorem mK {d : Nat} {t : TypeId} {a b : AV} {r : Bool} (e : dD P d t a b = some r) : a ≠ .bad /\ b ≠ .bad := by
 cases d with
 | zero => cases e
 | succ d =>
  unfold dD at e
  constructor
  ·intro q; subst q
   cases hu : P.underlying t with
   | none => rw [hu] at e; cases e
   | some td => rw [hu] at e; cases td <;> simp at e
  ·intro q; subst q
   cases hu : P.underlying t with
   | none => rw [hu] at e; cases e
   | some td => rw [hu] at e; cases td <;> simp only at e <;> first | (cases e; done) | (cases a <;> simp at e)
theorem uV {d : Nat} {t : TypeId} {j k : IntKind} {m n : Int} {r : Bool} (e : dD P d t (.int j m) (.int k n) = some r) : j = k /\ r = decide (m = n) := by
 cases d with
 | zero => cases e
 | succ d =>
  unfold dD at e
  cases hu : P.underlying t with
  | none => rw [hu] at e; cases e
  | some td =>
   rw [hu] at e
   cases td <;> simp at e
   by_cases hj : j = k
   ·simp [hj] at e; exact ⟨hj, e.symm⟩
   ·simp [hj] at e
theorem Ck {t : TypeId} {x y : Operand} {a b : AV} {r : Bool} (e : dD P 10000 t a b = some r) (hg : iq P t x y a b = true) (ns : ¬ ∃ s s', a = .str s /\ b = .str s') : nQ P .eql t x y a b = some (.bool r) := by
 unfold nQ
 split
 ·obtain ⟨rfl, rfl⟩ := uV e; simp [ju]
 ·exact absurd ⟨_, _, rfl, rfl⟩ ns
 ·exact absurd rfl (mK e).1
 ·exact absurd rfl (mK e).2
 ·simp [hg, e]
theorem Cj {t : TypeId} {x y : Operand} {a b : AV} {r : Bool} (e : dD P 10000 t a b = some r) (hg : iq P t x y a b = true) (ns : ¬ ∃ s s', a = .str s /\ b = .str s') : nQ P .neq t x y a b = some (.bool !r) := by
 unfold nQ
 split
 ·obtain ⟨rfl, rfl⟩ := uV e; simp [ju]
 ·exact absurd ⟨_, _, rfl, rfl⟩ ns
 ·exact absurd rfl (mK e).1
 ·exact absurd rfl (mK e).2
 ·simp [hg, e]
theorem lO {s av : AV} {k : Nat} (e : js s k = some av) : (∃ b o, av = .ptr b o) \/ ∃ cs, av = .fT cs := by
 unfold js at e
 split at e
 ·simp at e; exact .inl ⟨_, _, e.symm⟩
 ·simp at e; exact .inr ⟨_, e.symm⟩
 ·cases e
theorem pY {S : Nat -> Prop} {sz : Nat} {R : V -> List AV -> Prop} {x : V} {av : AV} (q : Cn h S sz R x av) : av = .aV \/ (∃ b o l z, av = .slice b o l z) \/ ∃ cs l z, av = .bY cs l z := by
 rcases q with ⟨_, q⟩ | ⟨l, _, ⟨b, off, cs, q, _⟩ | ⟨cs, l', q, _⟩⟩
 ·exact .inl q
 ·exact .inr (.inl ⟨_, _, _, _, q⟩)
 ·exact .inr (.inr ⟨_, _, _, q⟩)
theorem SD.BB {a : SV} (g : SD P h H ρ a .cW) : a = .cW \/ a = .bad := by
 cases g with
 | bad => exact .inr rfl
 | cW => exact .inl rfl
 | ld q1 q2 q3 q4 => rcases lO q2 with ⟨_, _, q⟩ | ⟨_, q⟩ <;> cases q
 | pure q1 q2 q3 q4 => rcases pY q4 with q | ⟨_, _, _, _, q⟩ | ⟨_, _, _, q⟩ <;> cases q
theorem SD.Dd {a : SV} {l : List AV} (g : SD P h H ρ a (.agg l)) : (∃ m, a = .agg m) \/ a = .bad := by
 cases g with
 | bad => exact .inr rfl
 | agg _ => exact .inl ⟨_, rfl⟩
 | ld q1 q2 q3 q4 => rcases lO q2 with ⟨_, _, q⟩ | ⟨_, q⟩ <;> cases q
 | pure q1 q2 q3 q4 => rcases pY q4 with q | ⟨_, _, _, _, q⟩ | ⟨_, _, _, q⟩ <;> cases q
theorem SD.ofStr {a : SV} {l : ByteArray} (g : SD P h H ρ a (.str l)) : (∃ m, a = .str m) \/ a = .bad := by
 cases g with
 | bad => exact .inr rfl
 | str _ => exact .inl ⟨_, rfl⟩
 | ld q1 q2 q3 q4 => rcases lO q2 with ⟨_, _, q⟩ | ⟨_, q⟩ <;> cases q
 | pure q1 q2 q3 q4 => rcases pY q4 with q | ⟨_, _, _, _, q⟩ | ⟨_, _, _, q⟩ <;> cases q
theorem Bp {h0 : ah} {sh : ae} (R : HR P h0 h H ρ sh) {w : Bool} {op : BinOp} {t : TypeId} {x y : Operand} {a b v : SV} {u1 u2 : AV} {l : List E} (e : Dv P sh w op t x y a b = some (v, l)) (g1 : SD P h H ρ a u1) (g2 : SD P h H ρ b u2) (hl : bo ρ l) :
  ∃ u, nQ P op t x y u1 u2 = some u /\ SD P h H ρ v u := by
 unfold Dv at e
 split at e
 ·rename_i j m k n
  cases g1; cases g2
  split at e
  ·cases e
   rw [bo.append, cA, le'_b] at hl
   have h0 : ¬ n.i ρ < 0 := by have := ao.1 hl.1; simp [E.i] at this; omega
   refine ⟨_, by simp [nQ, h0]; rfl, ?_⟩
   have : (fit w j (.shl j m n)).1.i ρ = iV j (Int.mul (m.i ρ) (2 ^ min (n.i ρ).toNat j.bits)) := by rw [kA hl.2, cZ]; rfl
   exact this ▸ .int _ _
  ·cases e
   rw [cA, le'_b] at hl
   have h0 : ¬ n.i ρ < 0 := by have := ao.1 hl; simp [E.i] at this; omega
   exact ⟨.int j (Int.fdiv (m.i ρ) (2 ^ min (n.i ρ).toNat j.bits)), by simp [nQ, h0], .int _ _⟩
  ·rename_i hs1 hs2
   obtain ⟨hj, e⟩ := aj e
   obtain ⟨u, h1, h2⟩ := wJ (P := P) (h := h) (H := H) e hl
   refine ⟨u, ?_, h2⟩
   cases op <;> first | exact absurd rfl hs1 | exact absurd rfl hs2 | (simp only [nQ, hj, cond_true]; exact h1)
 ·cases e
 ·cases e
 ·cases e
 ·rename_i n1 n2 n3 n4
  have gd : sb P t x y a b = true -> iq P t x y u1 u2 = true := by
   intro hg
   unfold iq
   split
   ·rcases g1.BB with rfl | rfl
    ·rcases g2.BB with rfl | rfl
     ·exact hg
     ·exact (n2 rfl).elim
    ·exact (n1 rfl).elim
   ·rcases g1.Dd with ⟨_, rfl⟩ | rfl
    ·rcases g2.Dd with ⟨_, rfl⟩ | rfl
     ·exact hg
     ·exact (n2 rfl).elim
    ·exact (n1 rfl).elim
   ·rfl
  have ns : ¬ ∃ s s', u1 = .str s /\ u2 = .str s' := by
   rintro ⟨s, s', rfl, rfl⟩
   rcases g1.ofStr with ⟨_, rfl⟩ | rfl
   ·rcases g2.ofStr with ⟨_, rfl⟩ | rfl
    ·exact n4 _ _ rfl rfl
    ·exact n2 rfl
   ·exact n1 rfl
  split at e
  ·obtain ⟨hg, e⟩ := aj e
   simp only [Option.map_eq_some_iff] at e
   obtain ⟨c, hc, e⟩ := e
   cases e
   exact ⟨_, Ck (ug R hc g1 g2 10000 (by decide)) (gd hg) ns, .bool _⟩
  ·obtain ⟨hg, e⟩ := aj e
   simp only [Option.map_eq_some_iff] at e
   obtain ⟨c, hc, e⟩ := e
   cases e
   refine ⟨_, Cj (ug R hc g1 g2 10000 (by decide)) (gd hg) ns, ?_⟩
   rw [<- not'_b]; exact .bool _
  ·cases e
theorem Cy {w : Bool} {op : UnOp} {x v : SV} {u : AV} {l : List E} (e : Eu w op x = some (v, l)) (g : SD P h H ρ x u) (hl : bo ρ l) : ∃ r, Eg op u = some r /\ SD P h H ρ v r := by
 unfold Eu at e
 split at e
 ·rename_i k n
  cases e; cases g
  have : (fit w k (E.sub' (.il 0) n)).1.i ρ = iV k (Int.sub 0 (n.i ρ)) := by rw [kA hl, cZ, sub'_i]; rfl
  exact ⟨_, rfl, this ▸ .int _ _⟩
 ·cases e; cases g
  exact ⟨_, rfl, by rw [<- not'_b]; exact .bool _⟩
 ·cases e
theorem Ap {w : Bool} {s d : TypeId} {x v : SV} {u : AV} {l : List E} (e : Bo P w s d x = some (v, l)) (g : SD P h H ρ x u) (hl : bo ρ l) : ∃ r, tp P s d u = some r /\ SD P h H ρ v r := by
 unfold Bo at e
 split at e
 ·rename_i k h1 h2
  split at e
  ·rename_i n
   cases e; cases g
   rename_i j
   have : (fit w k n).1.i ρ = iV k (n.i ρ) := by rw [kA hl, cZ]
   refine ⟨.int k (iV k (n.i ρ)), ?_, this ▸ .int _ _⟩
   simp [tp, h1, h2]
  ·cases e
 ·rename_i h1 h2
  split at e
  ·cases e; cases g with | str q => exact ⟨_, by simp [tp, h1, h2], .str q⟩
  ·cases e
 ·cases e
theorem eh {t : TypeId} {z : SV} (e : jN P t = some z) : ∃ u, fP P t = some u /\ SD P h H ρ z u := by
 unfold jN at e
 unfold fP
 split at e
 ·rename_i i hi
  simp only [Option.map_eq_some_iff] at e
  obtain ⟨v, e1, rfl⟩ := e
  rw [hi]
  exact ⟨x8 v, by simp [e1], wN v⟩
 ·cases e
inductive gF (P : Program) (h : ah) (H : Hid) (ρ : Env) : List (Nat × SV) -> List (Nat × AV) -> Prop
 | nil : gF P h H ρ [] []
 | cons {i : Nat} {x : SV} {u : AV} {xs : List (Nat × SV)} {us : List (Nat × AV)} : SD P h H ρ x u -> gF P h H ρ xs us -> gF P h H ρ ((i, x) :: xs) ((i, u) :: us)
theorem kj {x : Tr SV} {y : Tr AV} (g : mZ P h H ρ x y) : ∀ l : List (Nat × Operand), gF P h H ρ (l.map fun p => (p.1, aU x p.2)) (l.map fun p => (p.1, evalOp y p.2))
 | [] => .nil
 | p :: l => .cons (cM g p.2) (kj g l)
theorem SD.vx {x : SV} {u : AV} (g : SD P h H ρ x u) (hx : x ≠ .bad) : u ≠ .bad := by
 intro e
 subst e
 cases g with
 | bad => exact hx rfl
 | ld q1 q2 q3 q4 => unfold js at q2; split at q2 <;> simp at q2
 | pure q1 q2 q3 q4 => rcases q4 with ⟨_, q⟩ | ⟨l, _, ⟨b, off, cs, q, _⟩ | ⟨cs, l', q, _⟩⟩ <;> cases q
theorem oZ {place : Nat -> Option (Nat × Nat)} : ∀ {ps : List (Nat × SV)} {qs : List (Nat × AV)} {cells out : List SV} {acells : List AV}, gF P h H ρ ps qs -> cB P h H ρ cells acells -> uf place cells ps = some out -> ∃ aout, eP place acells qs = some aout /\ cB P h H ρ out aout
 | [], _, cells, out, acells, .nil, k, e => by simp [uf] at e; subst e; exact ⟨acells, rfl, k⟩
 | (i, v) :: ps, _, cells, out, acells, .cons (u := u) g1 g2, k, e => by
  unfold uf at e
  split at e
  ·cases e
  ·rename_i hv
   have hv' : v ≠ .bad := fun q => hv q
   have hu := g1.vx hv'
   split at e
   ·cases e
   ·rename_i off size hp
    obtain ⟨hc, e⟩ := aj e
    have c1 := g1.cells' hv'
    have l1 := c1.length
    have l2 := k.length
    have k' : cB P h H ρ (jl cells off v.cells) (aB acells off u.cells) := by
     unfold jl aB
     rw [<- l1]
     exact ((k.take off).append c1).append (k.drop _)
    obtain ⟨aout, w1, w2⟩ := oZ g2 k' e
    refine ⟨aout, ?_, w2⟩
    unfold eP
    cases u <;> first | exact absurd rfl hu | skip
    all_goals
     simp only [hp]
     rw [<- l1, <- l2, hc]
     exact w1
theorem yB {t : TypeId} {ps : List (Nat × SV)} {qs : List (Nat × AV)} {v : SV} (g : gF P h H ρ ps qs) (e : yC P t ps = some v) : ∃ u, tu P t qs = some u /\ SD P h H ρ v u := by
 unfold yC at e
 split at e
 ·rename_i z hz
  obtain ⟨zu, z1, z2⟩ := eh (h := h) (H := H) (ρ := ρ) hz
  cases z2 with
  | agg z2 =>
   unfold tu
   rw [z1]
   simp only
   split at e
   ·rename_i fields hf
    rw [hf]
    simp only
    split at e
    ·rename_i l hl
     rw [hl]
     simp only [Option.map_eq_some_iff] at e ⊢
     obtain ⟨out, e1, rfl⟩ := e
     obtain ⟨aout, w1, w2⟩ := oZ g z2 e1
     exact ⟨_, ⟨aout, w1, rfl⟩, .agg w2⟩
    ·cases e
   ·rename_i n elem hf
    rw [hf]
    simp only
    split at e
    ·rename_i s hs
     rw [hs]
     simp only [Option.map_eq_some_iff] at e ⊢
     obtain ⟨out, e1, rfl⟩ := e
     obtain ⟨aout, w1, w2⟩ := oZ g z2 e1
     exact ⟨_, ⟨aout, w1, rfl⟩, .agg w2⟩
    ·cases e
   ·cases e
 ·cases e
theorem Ak {c a b v : SV} {uc ua ub : AV} (gc : SD P h H ρ c uc) (ga : SD P h H ρ a ua) (gb : SD P h H ρ b ub) (e : Bc c a b = some v) : ∃ u, pick uc ua ub = some u /\ SD P h H ρ v u := by
 unfold Bc at e
 split at e
 ·cases e; cases gc; exact ⟨ua, rfl, ga⟩
 ·cases e; cases gc; exact ⟨ub, rfl, gb⟩
 ·rename_i x _ _
  split at e
  ·rename_i p q
   cases e; cases gc; cases ga; cases gb
   refine ⟨.bool (cond (x.b ρ) (p.b ρ) (q.b ρ)), ?_, .bool _⟩
   cases x.b ρ <;> rfl
  ·rename_i j p k q
   obtain ⟨hj, e'⟩ := aj e
   clear e
   simp only [decide_eq_true_eq] at hj
   subst hj
   simp only [Option.some.injEq] at e'
   subst e'
   cases gc; cases ga; cases gb
   refine ⟨.int j (cond (x.b ρ) (p.i ρ) (q.i ρ)), ?_, .int _ _⟩
   cases x.b ρ <;> rfl
  ·cases e
 ·cases e
theorem qQ {x v : SV} {u : AV} {t : TypeId} {ok : Bool} (g : SD P h H ρ x u) (e : kT P x t ok = some v) : ∃ r, fk P u t ok = some r /\ SD P h H ρ v r := by
 unfold kT at e
 split at e
 ·rename_i hi
  have zero : ∀ {v : SV}, cond ok ((jN P t).map fun z => SV.tuple [z, .bool (.bl false)]) none = some v -> ∃ r, cond ok ((fP P t).map fun z => AV.tuple [z, .bool false]) none = some r /\ SD P h H ρ v r := by
   intro v e
   obtain ⟨ho, e⟩ := aj e
   simp only [Option.map_eq_some_iff] at e
   obtain ⟨z, e1, rfl⟩ := e
   obtain ⟨zu, z1, z2⟩ := eh (h := h) (H := H) (ρ := ρ) e1
   exact ⟨.tuple [zu, .bool false], by simp [ho, z1], .tuple (.cons z2 (.cons (.bool (.bl false)) .nil))⟩
  split at e
  ·rename_i t' y
   cases g with
   | iface g =>
    simp only [fk, hi]
    cases hq : Nat.beq t' t with
    | true =>
     rw [hq] at e
     simp only [cond_true, Option.some.injEq] at e ⊢
     refine ⟨_, rfl, ?_⟩
     subst e
     cases ok
     ·exact g
     ·exact .tuple (.cons g (.cons (.bool (.bl true)) .nil))
    | false => rw [hq] at e; exact zero e
  ·cases g
   simp only [fk, hi]
   exact zero e
  ·cases e
 ·cases e
theorem pH {f : SV -> SV -> Option SV} {fa : AV -> AV -> Option AV} (hf : ∀ {x y r : SV} {a b : AV}, f x y = some r -> SD P h H ρ x a -> SD P h H ρ y b -> ∃ c, fa a b = some c /\ SD P h H ρ r c) : ∀ {l : List SV} {m : List AV} {x r : SV} {a : AV}, cB P h H ρ l m -> SD P h H ρ x a -> xC f x l = some r -> ∃ c, qC fa a m = some c /\ SD P h H ρ r c
 | [], _, x, r, a, .nil, g, e => by cases e; exact ⟨a, rfl, g⟩
 | y :: l, _, x, r, a, .cons g1 g2, g, e => by
  unfold xC at e
  split at e
  ·rename_i b hb
   obtain ⟨c, c1, c2⟩ := hf hb g g1
   obtain ⟨d, d1, d2⟩ := pH hf g2 c2 e
   exact ⟨d, by simp [qC, c1, d1], d2⟩
  ·cases e
theorem Be {x y r : SV} {a b : AV} (e : Bf x y = some r) (g1 : SD P h H ρ x a) (g2 : SD P h H ρ y b) : ∃ c, Ab a b = some c /\ SD P h H ρ r c := by
 unfold Bf at e
 split at e
 ·rename_i k p j q
  cases e; cases g1; cases g2
  refine ⟨_, rfl, ?_⟩
  have : (E.min p q).i ρ = cond (decide (q.i ρ < p.i ρ)) (q.i ρ) (p.i ρ) := by
   simp only [E.i, vz]; by_cases h : q.i ρ < p.i ρ <;> simp [h]
  exact this ▸ .int _ _
 ·cases e
theorem Bg {x y r : SV} {a b : AV} (e : Bh x y = some r) (g1 : SD P h H ρ x a) (g2 : SD P h H ρ y b) : ∃ c, Ac a b = some c /\ SD P h H ρ r c := by
 unfold Bh at e
 split at e
 ·rename_i k p j q
  cases e; cases g1; cases g2
  refine ⟨_, rfl, ?_⟩
  have : (E.max p q).i ρ = cond (decide (p.i ρ < q.i ρ)) (q.i ρ) (p.i ρ) := by
   simp only [E.i, vA]; by_cases h : p.i ρ < q.i ρ <;> simp [h]
  exact this ▸ .int _ _
 ·cases e
end
end Go.Sym
namespace Go.Sym
open Go Go.a9
section
variable {P : Program} {h : ah} {H : Hid} {ρ : Env}
theorem pZ.get {R : TypeId -> V -> List AV -> Prop} : ∀ {fs : List Field} {pos : Nat} {xs : List V} {cs : List AV}, pZ P R fs pos xs cs -> ∀ (i : Nat) (f : Field), fs[i]? = some f -> ∃ x c r, xs[i]? = some x /\ pos <= f.offset /\ cs.drop (f.offset - pos) = c ++ r /\ R f.type x c
 | [], _, _, _, _, i, f, e => by simp at e
 | g :: fs, pos, _, _, ⟨x, ys, c, r, rfl, rfl, ho, ga, gb⟩, 0, f, e => by
  simp at e; subst e
  exact ⟨x, c, r, rfl, by omega, by rw [ho]; simp, ga⟩
 | g :: fs, pos, _, _, ⟨x, ys, c, r, rfl, rfl, ho, ga, gb⟩, i + 1, f, e => by
  obtain ⟨x', c', r', h1, h2, h3, h4⟩ := pZ.get gb i f (by simpa using e)
  refine ⟨x', c', r', by simpa using h1, by omega, ?_, h4⟩
  rw [show f.offset - pos = c.length + (f.offset - (pos + c.length)) from by omega, <- List.drop_drop, List.drop_left' rfl]
  exact h3
theorem AT {s av : AV} {k n : Nat} (e : js s k = some av) : ∃ aw, gq n av = some aw /\ js s (k + n) = some aw := by
 unfold js at e
 split at e
 ·simp at e; subst e; exact ⟨_, rfl, by simp [js, Nat.add_assoc]⟩
 ·simp at e; subst e; exact ⟨_, rfl, by simp [js, List.drop_drop]⟩
 ·cases e
theorem Br {S : Nat -> Prop} {av aw : AV} {n : Nat} {cs : List AV} (e : nY h S av = some cs) (k : gq n av = some aw) : nY h S aw = some (cs.drop n) := by
 unfold gq at k
 split at k
 ·simp at k; subst k
  simp only [nY] at e ⊢
  split at e
  ·rename_i hS
   rw [if_pos hS]
   simp only [a9.rowAt] at e ⊢
   split at e
   ·simp at e; subst e; simp [List.drop_drop]
   ·cases e
  ·cases e
 ·simp at k; subst k
  simp only [nY, Option.some.injEq] at e ⊢
  subst e; rfl
 ·cases k
theorem sd {s : TypeId} {x v : SV} {u : AV} {f : Nat} (g : SD P h H ρ x u) (e : nj P s x f = some v) : ∃ r, dX P s u f = some r /\ SD P h H ρ v r := by
 unfold nj at e
 split at e
 ·rename_i fd hf
  split at e
  ·rename_i n hn
   split at e
   ·cases e
    cases g with | addr q => exact ⟨_, by simp [dX, hf, hn, gq], .addr q⟩
   ·cases e
    cases g with | bI q => exact ⟨_, by simp [dX, hf, hn, gq]; rfl, by rw [Nat.add_assoc]; exact .bI q⟩
   ·rename_i t e0 p i sz off
    split at e
    ·rename_i fd' hf'
     obtain ⟨hc, e⟩ := aj e
     simp only [Bool.and_eq_true] at hc
     have ht := aq hc.1
     have ho := aq hc.2
     cases e
     cases g with
     | ld q1 q2 q3 q4 =>
      rename_i sv c r
      obtain ⟨aw, w1, w2⟩ := AT (n := fd.offset) q2
      refine ⟨aw, by simp [dX, hf, hn, w1], ?_⟩
      -- the field's cells
      unfold jr at hf'
      split at hf'
      ·rename_i fields hu
       obtain ⟨_, q4⟩ := q4
       rw [hu] at q4
       simp only at q4
       obtain ⟨xs, x1, x2⟩ := q4
       obtain ⟨y, c', r', y1, y2, y3, y4⟩ := x2.get f fd' (by simpa using hf')
       refine .ld (s := sv) (c := c') (r := r' ++ r) q1 (by rw [<- Nat.add_assoc]; exact w2) ?_ ?_
       ·rw [Br q3 w1, <- ho]
        rw [Nat.sub_zero] at y3
        by_cases hle : fd'.offset <= c.length
        ·rw [List.drop_append_of_le_length hle, y3, List.append_assoc]
        ·exfalso
         have hnil : c.drop fd'.offset = [] := List.drop_eq_nil_of_le (by omega)
         rw [hnil] at y3
         have : c' = [] := by
          have := congrArg List.length y3
          simp at this
          exact List.length_eq_zero_iff.1 (by omega)
         subst this
         have := y4.length
         rw [ht, hn] at this
         simp at this
       ·rw [get'_v, x1]
        show PV P h H.S deep fd.type ((V.list xs).get (Int.ofNat f)) c'
        rw [V.gY, y1, <- ht]
        exact y4.le (by decide)
      ·cases hf'
    ·cases e
   ·cases e
  ·cases e
 ·cases e
theorem vB {i : E} {n : Nat} (e : CL i = some n) : i.i ρ = Int.ofNat n := by
 unfold CL at e
 split at e
 ·simp at e; subst e; rfl
 ·cases e
theorem lI {n len : Nat} (hn : n < len) : idx (Int.ofNat n) len = some n := by
 have : Nat.blt n len = true := by simpa [Nat.blt_eq] using hn
 simp [idx, this]
theorem r8 {h0 : ah} {sh : ae} (R : HR P h0 h H ρ sh) {t : TypeId} {x ix v : SV} {u iu : AV} {l : List E} (g : SD P h H ρ x u) (gi : SD P h H ρ ix iu) (e : nh P sh t x ix = some (v, l)) (hl : bo ρ l) : ∃ r, cE P t u iu = some r /\ SD P h H ρ v r := by
 unfold nh at e
 split at e
 ·rename_i k i
  cases gi
  split at e
  ·rename_i len elem hu
   split at e
   ·rename_i n s hn hs
    obtain ⟨hlt, e⟩ := aj e
    have hlt' : n < len := by simpa [Nat.blt_eq] using hlt
    split at e
    ·cases e
     cases g with | addr q => exact ⟨_, by simp only [cE, hu, vB hn, lI hlt', hs, gq], .addr q⟩
    ·cases e
     cases g with | bI q => exact ⟨_, by simp only [cE, hu, vB hn, lI hlt', hs, gq]; rfl, by rw [Nat.add_assoc]; exact .bI q⟩
    ·cases e
     cases g with | gp q => exact ⟨_, by simp only [cE, hu, vB hn, lI hlt', hs, gq], .gp (q.drop _)⟩
    ·cases e
   ·cases e
  ·rename_i elem hu
   split at e
   ·rename_i s hs
    split at e
    ·rename_i b
     have both : ∀ {et : TypeId} {e0 : E}, ((∃ ib, sh.get b = some (.arr et e0 ib)) \/ (∃ n, sh.get b = some (.dK et e0 n)) \/ (∃ hole, sh.get b = some (.tree et e0 hole)) \/ (∃ et0 i0 c0, sh.get b = some (.dW et et0 e0 i0 c0)) \/ ∃ et0 i0 c0 i2 c2, sh.get b = some (.dh et et0 e0 i0 c0 i2 c2)) -> Nat.beq et elem = true -> bo ρ (mC i e0.len') -> ∃ r, cE P t u (.int k (i.i ρ)) = some r /\ SD P h H ρ (.bI b i 0) r := by
      intro et e0 hob het hl
      have het := aq het
      subst het
      have hi := ew.1 hl
      rw [len'_i] at hi
      have nN : ∃ a len, ∃ l : List V, e0.v ρ = .list l /\ H.ν b = some (.nN a len s) /\ len = l.length := by
       rcases hob with ⟨ib, hg⟩ | ⟨n, hg⟩ | ⟨hole, hg⟩ | ⟨et0, i0, c0, hg⟩ | ⟨et0, i0, c0, i2, c2, hg⟩
       ·have ho := R.bj _ _ hg
        cases ho with
        | iA q1 q2 _ _ => rw [q1] at hi; simp [V.len, V.bx] at hi; omega
        | arr q1 q2 q3 q4 =>
         have hz := q3.size
         rw [hs] at hz; cases hz
         exact ⟨_, _, _, q1, q2, q3.len⟩
       ·have ho := R.bj _ _ hg
        cases ho with
        | ic _ _ q1 q2 => rw [q1] at hi; simp [V.len, V.bx] at hi; omega
        | dK q1 q2 q3 q4 q5 =>
         have hz := q3.size
         rw [hs] at hz; cases hz
         exact ⟨_, _, _, q1, q2, q3.len⟩
       ·have ho := R.bj _ _ hg
        cases ho with
        | eH q1 _ _ _ _ => rw [q1] at hi; simp [V.len, V.bx] at hi; omega
        | tree q1 q2 q3 q4 =>
         have hz := q3.size
         rw [hs] at hz; cases hz
         exact ⟨_, _, _, q1, q2, q3.len⟩
        | jf q1 q2 q3 q4 =>
         have hz := q3.size
         rw [hs] at hz; cases hz
         exact ⟨_, _, _, q1, q2, q3.len⟩
       ·have ho := R.bj _ _ hg
        cases ho with
        | dW q1 q2 q3 q4 q5 q6 q7 q8 q9 q10 =>
         rw [hs] at q3; cases q3
         exact ⟨_, _, _, q1, q2, q5⟩
       ·have ho := R.bj _ _ hg
        cases ho with
        | dh q1 q2 q3 q4 q5 q6 q7 q8 =>
         have hz := q3.size
         rw [hs] at hz; cases hz
         exact ⟨_, _, _, q1, q2, q3.len⟩
      obtain ⟨a, len, l, q1, q2, q3⟩ := nN
      rw [q1] at hi
      obtain ⟨m, hm1, hm2, hm3⟩ := dO hi.1 hi.2
      have hm2 : m < l.length := hm2
      cases g with
      | cu q => rw [q2] at q; cases q
      | view q =>
       rw [q2] at q; cases q
       refine ⟨.ptr a (m * s), ?_, ?_⟩
       ·simp only [cE, hu, hm1, q3, lI hm2, hs, beq_self', cond_true, Nat.zero_add]
       ·have := SD.bI (P := P) (h := h) (H := H) (ρ := ρ) (off := 0) (i := i) q2
        rw [hm3] at this
        exact this
     split at e
     ·rename_i et e0 ib hg
      obtain ⟨het, e⟩ := aj e
      cases e
      exact both (.inl ⟨_, hg⟩) het hl
     ·rename_i et e0 n hg
      obtain ⟨het, e⟩ := aj e
      cases e
      exact both (.inr (.inl ⟨_, hg⟩)) het hl
     ·rename_i et e0 n hg
      obtain ⟨het, e⟩ := aj e
      cases e
      exact both (.inr (.inr (.inl ⟨_, hg⟩))) het hl
     ·rename_i et et0 e0 i0 c0 hg
      obtain ⟨het, e⟩ := aj e
      cases e
      exact both (.inr (.inr (.inr (.inl ⟨_, _, _, hg⟩)))) het hl
     ·rename_i et et0 e0 i0 c0 i2 c2 hg
      obtain ⟨het, e⟩ := aj e
      cases e
      exact both (.inr (.inr (.inr (.inr ⟨_, _, _, _, _, hg⟩)))) het hl
     ·cases e
    ·rename_i et e0 p
     obtain ⟨het, e'⟩ := aj e
     clear e
     have het := aq het
     subst het
     cases e'
     have hi := ew.1 hl
     rw [len'_i] at hi
     cases g with
     | pure q1 q2 q3 q4 =>
      rw [hs] at q2; cases q2
      rcases q4 with ⟨h1, _⟩ | ⟨l0, h1, q4⟩
      ·rw [h1] at hi; simp [V.len, V.bx] at hi; omega
      ·rw [h1] at hi
       obtain ⟨m, hm1, hm2, hm3⟩ := dO hi.1 hi.2
       have hm2 : m < l0.length := hm2
       rcases q4 with ⟨b, off, cs, rfl, hb, hg, hll, hp⟩ | ⟨cs, l', rfl, hp⟩
       ·obtain ⟨c, r, w1, w2, w3⟩ := PV.rE hs hp hm2
        refine ⟨.ptr b (off + m * s), ?_, ?_⟩
        ·simp only [cE, hu, hm1, lI hm2, hs, beq_self', cond_true]
        ·refine .ld (c := c) (r := r ++ (cs.drop (off + l0.length * s))) q1 (by simp [js, hm3]) ?_ (by rw [get'_v, h1, hm1]; exact w3)
         simp only [nY, hb, if_true, a9.rowAt, hg]
         rw [List.drop_take] at w1
         rw [<- List.append_assoc, <- w1]
         rw [List.drop_drop]
         conv => lhs; rw [<- List.take_append_drop (l0.length * s - m * s) (cs.drop (off + m * s))]
         rw [List.drop_drop]
         have : m * s <= l0.length * s := Nat.mul_le_mul_right _ (by omega)
         rw [show off + m * s + (l0.length * s - m * s) = off + l0.length * s from by omega]
       ·obtain ⟨c, r, w1, w2, w3⟩ := hp.get m (l0[m]) (by rw [List.getElem?_append_left hm2]; simp)
        refine ⟨.fT (cs.drop (m * s)), ?_, ?_⟩
        ·simp only [cE, hu, hm1, lI hm2, hs, beq_self', cond_true]
        ·refine .ld (c := c) (r := r) q1 (by simp [js, hm3]) (by simp only [nY, w1]) ?_
         rw [get'_v, h1, hm1, V.gY]
         simpa [hm2] using w3
    ·cases e
   ·cases e
  ·cases e
 ·cases e
theorem yx {s : TypeId} {x v : SV} {u : AV} {f : Nat} (g : SD P h H ρ x u) (e : yz P s x f = some v) : ∃ r, pT P s u f = some r /\ SD P h H ρ v r := by
 unfold yz at e
 split at e
 ·cases g with
  | agg g =>
   split at e
   ·rename_i fd hf
    obtain ⟨w, w1, w2⟩ := cw (g.drop fd.offset) e
    exact ⟨w, by simp [pT, hf, eD, w1], w2⟩
   ·cases e
 ·cases e
theorem yq {t : TypeId} {x ix v : SV} {u iu : AV} {l : List E} (g : SD P h H ρ x u) (gi : SD P h H ρ ix iu) (e : yu P t x ix = some (v, l)) : ∃ r, pS P t u iu = some r /\ SD P h H ρ v r := by
 unfold yu at e
 split at e
 ·rename_i k i
  cases gi
  split at e
  ·rename_i len elem hu
   split at e
   ·cases g with
    | agg g =>
     split at e
     ·rename_i n s hn hs
      obtain ⟨hlt, e⟩ := aj e
      have hlt' : n < len := by simpa [Nat.blt_eq] using hlt
      simp only [Option.map_eq_some_iff] at e
      obtain ⟨v', e1, e2⟩ := e
      cases e2
      obtain ⟨w, w1, w2⟩ := cw (g.drop (n * s)) e1
      exact ⟨w, by simp only [pS, hu, vB hn, lI hlt', hs, eD, w1], w2⟩
     ·cases e
   ·cases e
  ·cases e
 ·cases e
theorem kh {h0 : ah} {sh : ae} (R : HR P h0 h H ρ sh) {x : SV} {u : AV} {t : TypeId} {e : E} {p : PA} (g : SD P h H ρ x u) (k : pq sh x = some (t, e, p)) : SD P h H ρ (.pure t e p) u := by
 unfold pq at k
 split at k
 ·simp at k; obtain ⟨rfl, rfl, rfl⟩ := k; exact g
 ·split at k
  ·rename_i b t' e' n hg
   simp at k; obtain ⟨rfl, rfl, rfl⟩ := k
   have ho := R.bj _ _ hg
   cases ho with
   | ic z1 z2 q1 q2 q3 =>
    cases g with
    | cu q => exact .pure (by simp [fq, q3]) z1 z2 (.inl ⟨q1, rfl⟩)
    | view q => rw [q2] at q; cases q
   | dK q1 q2 q3 q4 q5 =>
    cases g with
    | cu q => rw [q2] at q; cases q
    | view q =>
     rw [q2] at q; cases q
     have hlen := q3.len
     subst hlen
     refine .pure (by simp [fq, q5]) q3.size q3.pos (.inr ⟨_, q1, .inl ⟨_, _, _, rfl, q4, q3.get, ?_, ?_⟩⟩)
     ·rw [q3.row.length]; omega
     ·rw [List.drop_zero, List.take_of_length_le (by rw [q3.row.length]; omega)]; exact q3.row
  ·cases k
 ·cases k
end
end Go.Sym
namespace Go.Sym
open Go Go.a9
section
variable {P : Program} {h : ah} {H : Hid} {ρ : Env}
inductive zy (ρ : Env) : Option E -> Option AV -> Prop
 | none : zy ρ none none
 | some {k : IntKind} {e : E} : zy ρ (some e) (some (.int k (e.i ρ)))
theorem wM {x : Tr SV} {y : Tr AV} (g : mZ P h H ρ x y) {o : Option Operand} {r : Option E} (e : CB x o = some r) : zy ρ r (fA y o) := by
 unfold CB at e
 cases o with
 | none => cases e; exact .none
 | some o =>
  simp only at e
  split at e
  ·rename_i k e' hq
   cases e
   have := cM g o
   rw [hq] at this
   simp only [fA]
   cases hh : evalOp y o with
   | int k' n => rw [hh] at this; cases this; exact .some
   | _ => rw [hh] at this; cases this
  ·cases e
theorem yN {i : Int} {n : Nat} (h0 : 0 <= i) (h1 : i <= n) : idx i (n + 1) = some i.toNat := by
 obtain ⟨m, rfl⟩ : ∃ m : Nat, i = Int.ofNat m := ⟨i.toNat, by simp; omega⟩
 have : m <= n := by simpa using h1
 rw [lI (by omega)]; simp
theorem uQ {len : Nat} {lo hi : Option E} {alo ahi : Option AV} {n : E} (gl : zy ρ lo alo) (gh : zy ρ hi ahi) (hn : n.i ρ = len) (h0 : 0 <= (lo.getD (.il 0)).i ρ) (h1 : (lo.getD (.il 0)).i ρ <= (hi.getD n).i ρ) (h2 : (hi.getD n).i ρ <= len) :
  bounds len alo ahi = some (((lo.getD (.il 0)).i ρ).toNat, ((hi.getD n).i ρ).toNat) := by
 unfold bounds
 cases gh with
 | none =>
  simp only [Option.getD_none, hn] at h1 h2 ⊢
  cases gl with
  | none => simp [E.i]
  | some => simp only [Option.getD_some] at h0 h1 ⊢; rw [yN h0 h1]; simp
 | some =>
  simp only [Option.getD_some] at h1 h2 ⊢
  rw [yN (by omega) h2]
  simp only
  cases gl with
  | none => simp [E.i]
  | some => simp only [Option.getD_some] at h0 h1 ⊢; rw [yN h0 (by omega)]
theorem ym {h0 : ah} {sh : ae} (R : HR P h0 h H ρ sh) {t : TypeId} {x v : SV} {u : AV} {lo hi : Option E} {alo ahi : Option AV} {l : List E} (g : SD P h H ρ x u) (gl : zy ρ lo alo) (gh : zy ρ hi ahi) (e : yn P sh t x lo hi = some (v, l)) (hl : bo ρ l) :
  ∃ r, jJ P h t u alo ahi = some r /\ SD P h H ρ v r := by
 unfold yn at e
 split at e
 ·rename_i elem hu
  split at e
  ·rename_i s et e0 p hs hp
   obtain ⟨het, e'⟩ := aj e
   clear e
   have het := aq het
   subst het
   cases e'
   rw [bo.append, cA, cA, and'_b, le'_b, le'_b, le'_b, Bool.and_eq_true, ao, ao, ao] at hl
   obtain ⟨⟨hl0, hl1⟩, hl2⟩ := hl
   have g' := kh R g hp
   have hn := len'_i ρ e0
   rw [hn] at hl2
   change 0 <= (lo.getD (.il 0)).i ρ at hl0
   cases g' with
   | pure q1 q2 q3 q4 =>
    rw [hs] at q2; cases q2
    rcases q4 with ⟨h1, rfl⟩ | ⟨l0, h1, q4⟩
    ·rw [h1] at hl2
     have hz : (hi.getD e0.len').i ρ <= 0 := hl2
     have hz0 : e0.len'.i ρ = (0 : Nat) := by rw [hn, h1]; rfl
     refine ⟨.aV, ?_, .pure (sz := s) ?_ hs q3 (.inl ⟨?_, rfl⟩)⟩
     ·simp only [jJ, hu]
      rw [uQ (n := e0.len') gl gh hz0 hl0 hl1 hz]
      simp [hs]
     ·simp [fq, q1, zG]
     ·simp [E.v, h1, V.sub]
    ·rw [h1] at hl2
     have hz0 : e0.len'.i ρ = (l0.length : Nat) := by rw [hn, h1]; rfl
     have hz : (hi.getD e0.len').i ρ <= (l0.length : Nat) := hl2
     have hb := uQ (n := e0.len') gl gh hz0 hl0 hl1 hz
     generalize hL : ((lo.getD (.il 0)).i ρ).toNat = L at hb
     generalize hM : ((hi.getD e0.len').i ρ).toNat = M at hb
     have hLM : L <= M := by omega
     have hMl : M <= l0.length := by omega
     have hv : (E.cut e0 (lo.getD (.il 0)) (hi.getD e0.len')).v ρ = .list ((l0.take M).drop L) := by
      simp [E.v, h1, V.sub, V.bx, hL, hM]
     have hlen : ((l0.take M).drop L).length = M - L := by simp; omega
     rcases q4 with ⟨b, off, cs, rfl, hS, hg, hll, hp⟩ | ⟨cs, l', rfl, hp⟩
     ·refine ⟨.slice b (off + L * s) (M - L) s, ?_, .pure (sz := s) ?_ hs q3 ?_⟩
      ·simp only [jJ, hu, hb, hs, beq_self', cond_true]
      ·simp [fq, q1, zG, hL, hM]
      ·rw [hv]
       refine .inr ⟨_, rfl, .inl ⟨b, off + L * s, cs, by rw [hlen], hS, hg, ?_, ?_⟩⟩
       ·rw [hlen]
        have : L * s + (M - L) * s = M * s := by rw [<- Nat.add_mul]; congr 1; omega
        have : M * s <= l0.length * s := Nat.mul_le_mul_right _ hMl
        omega
       ·rw [hlen]
        have := (hp.take M).drop L
        have e4 : List.drop (L * s) (List.take (M * s) (List.drop off cs)) = List.take ((M - L) * s) (List.drop (off + L * s) cs) := by
         rw [List.drop_take, List.drop_drop, <- Nat.sub_mul]
        rw [List.take_take, Nat.min_eq_left (Nat.mul_le_mul_right _ hMl), e4] at this
        exact this
     ·refine ⟨.bY (cs.drop (L * s)) (M - L) s, ?_, .pure (sz := s) ?_ hs q3 ?_⟩
      ·simp only [jJ, hu, hb, hs, beq_self', cond_true]
      ·simp [fq, q1, zG, hL, hM]
      ·rw [hv]
       refine .inr ⟨_, rfl, .inr ⟨_, l0.drop M ++ l', by rw [hlen], ?_⟩⟩
       have := hp.drop L
       have e3 : (l0 ++ l').drop L = (l0.take M).drop L ++ (l0.drop M ++ l') := by
        rw [List.drop_append_of_le_length (by omega), <- List.append_assoc]
        congr 1
        conv => lhs; rw [<- List.take_append_drop M l0]
        rw [List.drop_append_of_le_length (by simp; omega)]
       rw [<- e3]; exact this
  ·cases e
 ·cases e
theorem Bi {h0 : ah} {sh : ae} (R : HR P h0 h H ρ sh) {t : TypeId} {x v : SV} {u : AV} (g : SD P h H ρ x u) (e : Dt P sh t x = some v) : ∃ r, rf P h t u = some r /\ SD P h H ρ v r := by
 unfold Dt at e
 split at e
 ·rename_i n et hu
  cases e
  exact ⟨.int .i64 n, by simp [rf, hu], .int .i64 (.il n)⟩
 ·rename_i et hu
  split at e
  ·cases e; cases g
   exact ⟨.int .i64 0, by simp [rf, hu], .int .i64 (.il 0)⟩
  ·simp only [Option.map_eq_some_iff] at e
   obtain ⟨r, k, rfl⟩ := e
   have hi : ∀ {n : Int}, r.len'.i ρ = n -> SD P h H ρ (.int .i64 r.len') (.int .i64 n) := fun q => q ▸ .int _ _
   rcases pA R g k with ⟨q1, rfl⟩ | ⟨l, q1, ⟨b, off, sz, rfl⟩ | ⟨cs, sz, rfl⟩⟩
   ·exact ⟨.int .i64 0, by simp [rf, hu], hi (by rw [len'_i, q1]; rfl)⟩
   ·exact ⟨.int .i64 l.length, by simp [rf, hu], hi (by rw [len'_i, q1]; rfl)⟩
   ·exact ⟨.int .i64 l.length, by simp [rf, hu], hi (by rw [len'_i, q1]; rfl)⟩
 ·cases e
theorem rY {h0 : ah} {sh : ae} (R : HR P h0 h H ρ sh) {hJ : DM} {fn : FuncId} {x : Tr SV} {y : Tr AV} (g : mZ P h H ρ x y) {o : Oper} {v : SV} {l : List E} (e : ve P hJ fn sh x o = some (v, l)) (hl : bo ρ l) :
  ∃ u, bz P h y o = some u /\ SD P h H ρ v u := by
 have ev := fun o => cM g o
 have pl : ∀ {q : Option SV}, plain q = some (v, l) -> q = some v := by
  intro q hq
  unfold plain at hq
  simp only [Option.map_eq_some_iff] at hq
  obtain ⟨v', h1, h2⟩ := hq
  cases h2; exact h1
 obtain ⟨dst, op, type, pos, after, guard⟩ := o
 unfold ve at e
 unfold bz
 simp only at e ⊢
 split at e
 ·cases e; exact ⟨_, rfl, ev _⟩
 ·cases e; exact ⟨_, rfl, ev _⟩
 ·exact Ak (ev _) (ev _) (ev _) (pl e)
 ·exact yB (kj g _) (pl e)
 ·exact ud R (ev _) e hl
 ·exact Bp R e (ev _) (ev _) hl
 ·exact Cy e (ev _) hl
 ·exact Ap e (ev _) hl
 ·split at e
  ·rename_i hi; cases e; simp only [hi]; exact ⟨_, rfl, .iface (ev _)⟩
  ·cases e
 ·cases e; exact ⟨_, rfl, .func (cB.map fun a _ => ev a) (cB.map fun a _ => ev a)⟩
 ·split at e
  ·rename_i e1 e2; exact ym R (ev _) (wM g e1) (wM g e2) e hl
  ·cases e
 ·exact sd (ev _) (pl e)
 ·exact yx (ev _) (pl e)
 ·exact r8 R (ev _) (ev _) e hl
 ·exact yq (ev _) (ev _) e
 ·rename_i x' i
  split at e
  ·rename_i vs hq
   have := ev x'
   rw [hq] at this
   cases hh : evalOp y x' with
   | tuple us =>
    rw [hh] at this
    cases this with
    | tuple q => obtain ⟨w, w1, w2⟩ := q.get (pl e); exact ⟨w, by simp only [hh]; exact w1, w2⟩
   | _ => rw [hh] at this; cases this
  ·cases e
 ·exact qQ (ev _) (pl e)
 ·rename_i x'
  split at e
  ·rename_i hq
   have := ev x'
   rw [hq] at this
   cases e
   cases hh : evalOp y x' with
   | ptr b o => rw [hh] at this; exact ⟨_, by simp only [hh], this⟩
   | _ => rw [hh] at this; cases this
  ·rename_i hq
   have := ev x'
   rw [hq] at this
   cases e
   cases hh : evalOp y x' with
   | ptr b o => rw [hh] at this; exact ⟨_, by simp only [hh], this⟩
   | _ => rw [hh] at this; cases this
  ·rename_i hq
   have := ev x'
   rw [hq] at this
   cases e
   cases hh : evalOp y x' with
   | func b o c => rw [hh] at this; exact ⟨_, by simp only [hh], this⟩
   | _ => rw [hh] at this; cases this
  ·rename_i hq
   have := ev x'
   rw [hq] at this
   cases e
   cases hh : evalOp y x' with
   | aF b => rw [hh] at this; exact ⟨_, by simp only [hh], this⟩
   | _ => rw [hh] at this; cases this
  ·cases e
 ·split at e
  ·rename_i hargs
   simp only [hargs]
   split at e
   ·rename_i ht; simp only [ht]; exact Bi R (ev _) (pl e)
   ·cases e
  ·rename_i hargs
   simp only [hargs]
   exact pH (fun a b c => Be a b c) (cB.map fun a _ => ev a) (ev _) (pl e)
  ·rename_i hargs
   simp only [hargs]
   exact pH (fun a b c => Bg a b c) (cB.map fun a _ => ev a) (ev _) (pl e)
  ·cases e
 ·cases e
end
end Go.Sym
namespace Go.Sym
open Go Go.a9
section
variable {P : Program} {h : ah} {H : Hid} {ρ : Env} {h0 : ah} {sh : ae}
theorem PV.fin : ∀ {d d' : Nat} {t : TypeId} {x : V} {cs : List AV} {S : Nat -> Prop}, fL P d t = true -> PV P h S d' t x cs -> PV P h S d t x cs
 | 0, _, _, _, _, _, e, _ => by simp [fL] at e
 | d + 1, 0, _, _, _, _, _, g => g.elim
 | d + 1, d' + 1, t, x, cs, S, e, g => by
  obtain ⟨g0, g⟩ := g
  refine ⟨g0, ?_⟩
  unfold fL at e
  split at g
  ·exact g
  ·exact g
  ·exact g
  ·rename_i hu
   rw [hu] at e
   obtain ⟨av, sz, a, b, c, k⟩ := g
   exact ⟨av, sz, a, b, c, k.imp (fun _ _ q => PV.fin e q) fun b hb => ⟨hb, fun _ e => e⟩⟩
  ·rename_i fields hu
   rw [hu] at e
   simp only [List.all_eq_true] at e
   obtain ⟨xs, a, b⟩ := g
   refine ⟨xs, a, ?_⟩
   generalize fields.toList = fs at e b
   have key : ∀ (fs : List Field) (pos : Nat) (xs : List V) (cs : List AV), (∀ f ∈ fs, fL P d f.type = true) -> pZ P (PV P h S d') fs pos xs cs -> pZ P (PV P h S d) fs pos xs cs := by
    intro fs
    induction fs with
    | nil => intro _ _ _ _ g; exact g
    | cons f fs ih =>
     intro pos xs cs hf g
     obtain ⟨x, ys, c, r, e1, e2, o, a, b⟩ := g
     exact ⟨x, ys, c, r, e1, e2, o, PV.fin (hf f (by simp)) a, ih _ _ _ (fun g hg => hf g (by simp [hg])) b⟩
   exact key _ _ _ _ e b
  ·rename_i n et hu
   rw [hu] at e
   obtain ⟨xs, sz, a, b, c, k⟩ := g
   exact ⟨xs, sz, a, b, c, k.imp fun _ _ q => PV.fin e q⟩
  ·exact g
theorem vd {e y : E} {l : List V} (he : e.v ρ = .list l) : (E.snoc e y).v ρ = .list (l ++ [y.v ρ]) := by simp [E.v, he, V.snoc, V.bx]
theorem fU (R : HR P h0 h H ρ sh) : ∀ {d : Nat} {t : TypeId} {svs : List SV} {cs : List AV} {e : E}, valOf P sh d t svs = some e -> cB P h H ρ svs cs -> ∃ c r, cs = c ++ r /\ PV P h H.S d t (e.v ρ) c := by
 intro d
 induction d with
 | zero => intro t svs cs e k; exact (Option.some_ne_none _ (k.symm.trans rfl)).elim
 | succ d ih =>
  intro t svs cs e k g
  unfold valOf at k
  split at k
  ·cases k
  ·rename_i n hn
   split at k
   ·rename_i j hu
    split at k
    ·obtain ⟨hc, k'⟩ := aj k
     clear k
     simp only [Bool.and_eq_true, decide_eq_true_eq] at hc
     obtain ⟨h1, rfl⟩ := hc
     have h1 := aq h1
     subst h1
     cases k'
     cases g with | cons g1 g2 =>
     cases g1
     exact ⟨[_], _, rfl, hn, by rw [hu]; exact ⟨_, rfl, rfl⟩⟩
    ·cases k
   ·rename_i hu
    split at k
    ·obtain ⟨hc, k'⟩ := aj k
     have h1 := aq hc
     subst h1
     cases k'
     cases g with | cons g1 g2 =>
     cases g1
     exact ⟨[_], _, rfl, hn, by rw [hu]; exact ⟨_, rfl, rfl⟩⟩
    ·cases k
   ·rename_i hu
    split at k
    ·obtain ⟨hc, k'⟩ := aj k
     have h1 := aq hc
     subst h1
     cases k'
     cases g with | cons g1 g2 =>
     cases g1 with | str q =>
     exact ⟨[_], _, rfl, hn, by rw [hu]; exact ⟨_, q, rfl⟩⟩
    ·cases k
   ·rename_i et hu
    obtain ⟨hc, k2⟩ := aj k
    clear k
    simp only [Bool.and_eq_true] at hc
    have h1 := aq hc.1
    subst h1
    split at k2
    ·rename_i z hz
     have mk : ∀ {p : PA} {u : AV} {r : List AV} {e0 : E}, SD P h H ρ (.pure et e0 p) u -> ∃ c r', u :: r = c ++ r' /\ PV P h H.S (d + 1) t (e0.v ρ) c := by
      intro p u r e0 q
      cases q with
      | pure q1 q2 q3 q4 =>
       refine ⟨[u], r, rfl, hn, ?_⟩
       rw [hu]
       exact ⟨u, _, rfl, q2, q3, q4.imp (fun _ _ w => PV.fin hc.2 w) fun b hb => ⟨hb, fun _ e => e⟩⟩
     split at k2
     ·cases k2
      cases g with | cons g1 g2 =>
      cases g1
      refine ⟨[_], _, rfl, hn, ?_⟩
      rw [hu]
      exact ⟨_, z + 1, rfl, hz, by omega, .inl ⟨rfl, rfl⟩⟩
     ·obtain ⟨ht, k'⟩ := aj k2
      clear k2
      have ht := aq ht
      subst ht
      cases k'
      cases g with | cons g1 g2 => exact mk g1
     ·split at k2
      ·rename_i b _ t' e' n' hg
       obtain ⟨ht, k'⟩ := aj k2
       clear k2
       have ht := aq ht
       subst ht
       cases k'
       cases g with | cons g1 g2 => exact mk (kh (p := .cell n' 0) R g1 (by simp [pq, hg]))
      ·cases k2
     ·cases k2
    ·cases k2
   ·rename_i fields hu
    obtain ⟨hc, k⟩ := aj k
    simp only [Bool.and_eq_true, decide_eq_true_eq] at hc
    obtain ⟨ht, hlen⟩ := hc
    have hlen : n <= svs.length := Nat.le_of_ble_eq_true hlen
    have key : ∀ (fs : List Field) (pos : Nat) (e1 e2 : E) (l : List V), tight P fs pos = some n -> e1.v ρ = .list l ->
      fs.foldl (fun r f => match r, valOf P sh d f.type (svs.drop f.offset) with | some x, some y => some (.snoc x y) | _, _ => none) (some e1) = some e2 ->
      ∃ m, e2.v ρ = .list (l ++ m) /\ ∃ c r, cs.drop pos = c ++ r /\ pos + c.length = n /\ pZ P (PV P h H.S d) fs pos m c := by
     intro fs
     induction fs with
     | nil =>
      intro pos e1 e2 l ht he hf
      simp [tight] at ht
      simp at hf
      subst hf
      exact ⟨[], by simpa using he, [], _, rfl, by simpa using ht, rfl, rfl⟩
     | cons f fs ihf =>
      intro pos e1 e2 l ht he hf
      unfold tight at ht
      split at ht
      ·rename_i s hs
       obtain ⟨ho, ht⟩ := aj ht
       have ho := aq ho
       rw [List.foldl_cons] at hf
       cases hv : valOf P sh d f.type (svs.drop f.offset) with
       | none =>
        rw [hv] at hf
        exfalso
        have : ∀ (gs : List Field), gs.foldl (fun r f => match r, valOf P sh d f.type (svs.drop f.offset) with | some x, some y => some (.snoc x y) | _, _ => none) none = (none : Option E) := by
         intro gs; induction gs with
         | nil => rfl
         | cons g gs ih => rw [List.foldl_cons]; exact ih
        simp only at hf
        rw [this] at hf
        cases hf
       | some y =>
        rw [hv] at hf
        simp only at hf
        obtain ⟨c, r, w1, w2⟩ := ih hv (g.drop f.offset)
        have hl := w2.length
        rw [hs] at hl
        cases hl
        obtain ⟨m, m1, c', r', m2, m3, m4⟩ := ihf (pos + c.length) (.snoc e1 y) e2 _ ht (vd he) hf
        refine ⟨y.v ρ :: m, by rw [m1]; simp, c ++ c', r', ?_, by simp; omega, ⟨_, _, c, c', rfl, rfl, ho, w2, m4⟩⟩
        rw [<- ho] at m2 ⊢
        rw [<- List.drop_drop, w1, List.drop_left' rfl] at m2
        rw [w1, m2, List.append_assoc]
      ·cases ht
    obtain ⟨m, m1, c, r, m2, m3, m4⟩ := key _ _ _ _ [] ht rfl k
    refine ⟨c, r, by simpa using m2, by rw [hn, <- m3]; simp, ?_⟩
    rw [hu]
    exact ⟨m, by simpa using m1, m4⟩
   ·rename_i m et hu
    split at k
    ·rename_i s hs
     obtain ⟨hc, k⟩ := aj k
     simp only [Bool.and_eq_true] at hc
     obtain ⟨ht, hlen⟩ := hc
     have ht := aq ht
     have key : ∀ (q j : Nat) (e1 e2 : E) (l : List V), e1.v ρ = .list l ->
       (List.range' j q).foldl (fun r j => match r, valOf P sh d et (svs.drop (j * s)) with | some x, some y => some (.snoc x y) | _, _ => none) (some e1) = some e2 ->
       ∃ m, e2.v ρ = .list (l ++ m) /\ m.length = q /\ ∃ c r, cs.drop (j * s) = c ++ r /\ c.length = q * s /\ bQ s (PV P h H.S d et) m c := by
      intro q
      induction q with
      | zero =>
       intro j e1 e2 l he hf
       simp at hf
       subst hf
       exact ⟨[], by simpa using he, rfl, [], _, rfl, by simp, rfl⟩
      | succ q ihq =>
       intro j e1 e2 l he hf
       rw [List.range'_succ, List.foldl_cons] at hf
       cases hv : valOf P sh d et (svs.drop (j * s)) with
       | none =>
        rw [hv] at hf
        exfalso
        have : ∀ (gs : List Nat), gs.foldl (fun r j => match r, valOf P sh d et (svs.drop (j * s)) with | some x, some y => some (.snoc x y) | _, _ => none) none = (none : Option E) := by
         intro gs; induction gs with
         | nil => rfl
         | cons g gs ih => rw [List.foldl_cons]; exact ih
        simp only at hf
        rw [this] at hf
        cases hf
       | some y =>
        rw [hv] at hf
        simp only at hf
        obtain ⟨c, r, w1, w2⟩ := ih hv (g.drop (j * s))
        have hl := w2.length
        rw [hs] at hl
        cases hl
        obtain ⟨m, m1, m5, c', r', m2, m3, m4⟩ := ihq (j + 1) (.snoc e1 y) e2 _ (vd he) hf
        refine ⟨y.v ρ :: m, by rw [m1]; simp, by simp [m5], c ++ c', r', ?_, by simp [m3, Nat.succ_mul]; omega, ⟨c, c', rfl, rfl, w2, m4⟩⟩
        rw [Nat.succ_mul, <- List.drop_drop, w1, List.drop_left' rfl] at m2
        rw [w1, m2, List.append_assoc]
     rw [List.range_eq_range'] at k
     obtain ⟨l, m1, m5, c, r, m2, m3, m4⟩ := key m 0 _ _ [] rfl k
     refine ⟨c, r, by simpa using m2, by rw [hn, m3, ht], ?_⟩
     rw [hu]
     exact ⟨l, s, by simpa using m1, m5, hs, m4⟩
    ·cases k
   ·cases k
end
end Go.Sym
namespace Go.Sym
open Go Go.a9
section
variable {P : Program} {h : ah} {H : Hid} {ρ : Env} {h0 : ah} {sh : ae}
def aS (h0 : ah) (H H' : Hid) : Prop := ∀ a, H'.S a -> H.S a \/ h0.next <= a
theorem aS.refl (h0 : ah) (H : Hid) : aS h0 H H := fun a h => .inl h
theorem aS.trans {H H' H'' : Hid} (x : aS h0 H H') (y : aS h0 H' H'') : aS h0 H H'' := fun a h => (y a h).elim (x a) .inr
theorem HR.vu (R : HR P h0 h H ρ sh) {b : Nat} {l : Loc} (e : H.ν b = some l) : b < sh.next := by
 apply Decidable.byContradiction
 intro q
 rw [R.cR b (by omega)] at e
 cases e
theorem HR.Dg (R : HR P h0 h H ρ sh) {n : Nat} (e : H.κ n ≠ []) : n < sh.iz := by
 apply Decidable.byContradiction
 intro q
 exact e (R.ka n (by omega))
theorem jq (R : HR P h0 h H ρ sh) {b : Nat} {t : TypeId} {e : E} {o0 : b5} {av : AV} {N : Nat -> Prop} (hg : sh.get b = some o0) (hown : own o0 = true) (hN : ∀ c, N c -> ¬ H.S c /\ h0.next <= c /\ c < h.next)
  (hNo : ∀ c o l, c ≠ b -> sh.get c = some o -> own o = true -> H.ν c = some l -> ∀ a, l.at = some a -> N a -> False) (hNt : ∀ c o a, c ≠ b -> sh.get c = some o -> bf o = true -> a ∈ H.fp c -> N a -> False)
  (ho : ∀ H', aM h H h H' -> H'.ν = H.ν -> H'.κ sh.iz = [av] -> (∀ c, H'.S c ↔ H.S c \/ N c) -> db P h H' ρ b (.dK t e sh.iz)) :
  ∃ H', aM h H h H' /\ HR P h0 h H' ρ { sh with iz := sh.iz + 1, t := sh.t.set b (.dK t e sh.iz) } /\ aS h0 H H' := by
 have hget : ∀ c o, ({ sh with iz := sh.iz + 1, t := sh.t.set b (.dK t e sh.iz) } : ae).get c = some o -> if c = b then o = .dK t e sh.iz else sh.get c = some o := by
  intro c o he
  have : (sh.t.set b (.dK t e sh.iz)).get c = some o := he
  rw [Tr.aP] at this
  split at this
  ·rename_i hc; rw [if_pos hc]; cases this; rfl
  ·rename_i hc; rw [if_neg hc]; exact this
 have hx : aM h H h { H with κ := fun n => if n = sh.iz then [av] else H.κ n, S := fun c => H.S c \/ N c } :=
  ⟨fun _ _ e => e, fun n j av e => by
   simp only
   by_cases hn : n = sh.iz
   ·subst hn; rw [R.ka _ (Nat.le_refl _)] at e; simp at e
   ·rw [if_neg hn]; exact e, fun _ _ _ _ e => e, fun b hb => ⟨.inl hb, fun _ e => e⟩⟩
 refine ⟨_, hx, ⟨?_, ?_, ?_, ?_, R.next, R.cJ, R.cR, R.cV, ?_, R.kb, R.none_, ?_, ?_⟩, ?_⟩
 ·intro c o e
  have := hget c o e
  split at this
  ·rename_i hc; subst hc; subst this; exact ho _ hx rfl (by simp) fun _ => Iff.rfl
  ·refine db.mono hx (fun _ => ⟨rfl, gD.refl _ _⟩) (fun _ _ _ _ _ e => e) (fun _ _ _ _ => rfl) ?_ (R.bj _ _ this)
   intro n hn
   have := R.Dg hn
   simp only; rw [if_neg (by omega)]
 ·intro c c' o o' l l' a' e e' ow ow' n1 n2 l1 l2
  have g1 := hget c o e
  have g2 := hget c' o' e'
  split at g1
  ·subst g1; cases ow
  ·split at g2
   ·subst g2; cases ow'
   ·exact R.inj _ _ _ _ _ _ _ g1 g2 ow ow' n1 n2 l1 l2
 ·intro c o l a' e ow n1 l1
  have g1 := hget c o e
  split at g1
  ·subst g1; cases ow
  ·rename_i hc
   obtain ⟨w1, w2⟩ := R.mL _ _ _ _ g1 ow n1 l1
   exact ⟨fun q => q.elim w1 fun q => hNo c o l hc g1 ow n1 a' l1 q, w2⟩
 ·rintro c (q | q)
  ·exact R.fN _ q
  ·exact (hN c q).2.2
 ·intro n hn
  have hn : sh.iz + 1 <= n := hn
  simp only; rw [if_neg (by omega)]; exact R.ka _ (by omega)
 ·intro c o e
  have g1 := hget c o e
  split at g1
  ·rename_i hc; subst hc; exact R.b4 _ _ hg
  ·exact R.b4 _ _ g1
 ·refine R.tr.step (fun c o e w => ?_) (fun c o a e w ha q => ?_) (fun c o l a e w n1 l1 => ?_) (Nat.le_refl _)
  ·have g1 := hget c o e
   split at g1
   ·subst g1; cases w
   ·exact ⟨o, g1, w, rfl⟩
  ·have g1 := hget c o e
   split at g1
   ·subst g1; cases w
   ·rename_i hc
    exact q.elim id fun q => (hNt c o a hc g1 w ha q).elim
  ·have g1 := hget c o e
   split at g1
   ·subst g1; cases w
   ·exact .inl ⟨c, o, l, g1, w, n1, l1⟩
 ·rintro c (q | q)
  ·exact .inl q
  ·exact .inr (hN c q).2.1
theorem lK (R : HR P h0 h H ρ sh) (x : SV) : ∃ H', aM h H h H' /\ HR P h0 h H' ρ (eY sh x) /\ aS h0 H H' := by
 unfold eY
 split
 ·rename_i b
  split
  ·rename_i t e ib hg
   have ho := R.bj _ _ hg
   cases ho with
   | iA q1 q2 q3 q4 =>
    exact jq R (av := .aV) (N := fun _ => False) hg rfl (fun _ q => q.elim) (fun _ _ _ _ _ _ _ _ _ q => q) (fun _ _ _ _ _ _ _ q => q)
     (fun H' x n k s => .ic q3 q4 q1 (by rw [n]; exact q2) k)
   | arr q1 q2 q3 q4 =>
    rename_i a len sz l acs
    have hown := R.mL b _ _ a hg rfl q2 rfl
    exact jq R (av := .slice a 0 len sz) (N := fun c => c = a) hg rfl (fun c q => by subst q; exact ⟨hown.1, hown.2, R.cV _ _ _ q2 rfl⟩)
     (fun c o l' hc g1 w n1 a' l1 q => by subst q; exact hc (R.inj _ _ _ _ _ _ _ g1 hg w rfl n1 q2 l1 rfl))
     (fun c o a' hc g1 w ha q => by subst q; exact R.tr.ow _ _ _ _ _ _ g1 w ha hg rfl q2 rfl)
     (fun H' x n k s => .dK q1 (by rw [n]; exact q2) (q3.mono x q3.get) ((s _).2 (.inr rfl)) k)
  ·rename_i t e hg
   have ho := R.bj _ _ hg
   cases ho with
   | eH q1 q2 q3 q4 _ =>
    exact jq R (av := .aV) (N := fun _ => False) hg rfl (fun _ q => q.elim) (fun _ _ _ _ _ _ _ _ _ q => q) (fun _ _ _ _ _ _ _ q => q)
     (fun H' x n k s => .ic q3 q4 q1 (by rw [n]; exact q2) k)
   | tree q1 q2 q3 q4 =>
    rename_i a len sz l acs
    have hown := R.mL b _ _ a hg rfl q2 rfl
    exact jq R (av := .slice a 0 len sz) (N := fun c => c = a \/ c ∈ H.fp b) hg rfl
     (fun c q => by
      rcases q with rfl | q
      ·exact ⟨hown.1, hown.2, R.cV _ _ _ q2 rfl⟩
      ·exact R.tr.lt _ _ hg rfl c q)
     (fun c o l' hc g1 w n1 a' l1 q => by
      rcases q with rfl | q
      ·exact hc (R.inj _ _ _ _ _ _ _ g1 hg w rfl n1 q2 l1 rfl)
      ·exact R.tr.ow _ _ _ _ _ _ hg rfl q g1 w n1 l1)
     (fun c o a' hc g1 w ha q => by
      rcases q with rfl | q
      ·exact R.tr.ow _ _ _ _ _ _ g1 w ha hg rfl q2 rfl
      ·exact hc (R.tr.inj _ _ _ _ _ g1 hg w rfl ha q))
     (fun H' x n k s => .dK q1 (by rw [n]; exact q2) ⟨q3.size, q3.pos, q3.len, q3.get, q4.zD fun _ _ G hG p => p.pv fun c hc => (s c).2 (.inr (.inr (hG c hc)))⟩ ((s _).2 (.inr (.inl rfl))) k)
  ·exact ⟨H, aM.refl _ _, R, aS.refl _ _⟩
 ·exact ⟨H, aM.refl _ _, R, aS.refl _ _⟩
theorem n6 (R : HR P h0 h H ρ sh) {b : Nat} {ob o1 : b5} {acs : List AV} (hg : sh.get b = some ob) (ho : own ob = true) (ht : bf ob = false) (ht1 : bf o1 = false) (ho1 : own o1 = true)
  (h1 : ∀ H', aM h H h H' -> H'.ν = H.ν -> H'.κb b sh.next = acs -> (∀ c, H'.S c ↔ H.S c) -> db P h H' ρ b o1) :
  ∃ H', aM h H h H' /\ HR P h0 h H' ρ { sh with next := sh.next + 1, t := sh.t.set b o1 } /\ aS h0 H H' := by
 have hx : aM h H h { H with κb := fun c v => if c = b /\ v = sh.next then acs else H.κb c v } := ⟨fun _ _ e => e, fun _ _ _ e => e, fun c v j av e => by
   simp only
   split
   ·rename_i hc; obtain ⟨rfl, rfl⟩ := hc; rw [R.kb _ _ (Nat.le_refl _)] at e; simp at e
   ·exact e, fun b hb => ⟨hb, fun _ e => e⟩⟩
 have hget : ∀ {c : Nat} {o : b5}, ({ sh with next := sh.next + 1, t := sh.t.set b o1 } : ae).get c = some o -> (c = b /\ o = o1) \/ (c ≠ b /\ sh.get c = some o) := by
  intro c o he
  have : (sh.t.set b o1).get c = some o := he
  rw [Tr.aP] at this
  split at this
  ·rename_i hc; cases this; exact .inl ⟨hc, rfl⟩
  ·rename_i hc; exact .inr ⟨hc, this⟩
 have hold : ∀ {c : Nat} {o : b5}, ({ sh with next := sh.next + 1, t := sh.t.set b o1 } : ae).get c = some o -> own o = true -> ∃ o', sh.get c = some o' /\ own o' = true := by
  intro c o e w
  rcases hget e with ⟨rfl, rfl⟩ | ⟨_, e⟩
  ·exact ⟨_, hg, ho⟩
  ·exact ⟨_, e, w⟩
 refine ⟨_, hx, ⟨?_, ?_, ?_, R.fN, R.next, R.cJ, fun c hc => R.cR c (by have : sh.next + 1 <= c := hc; omega), R.cV, R.ka, ?_, R.none_, ?_, ?_⟩, fun a ha => .inl ha⟩
 ·intro c o e
  rcases hget e with ⟨rfl, rfl⟩ | ⟨hc, e⟩
  ·exact h1 _ hx rfl (by simp) fun _ => Iff.rfl
  ·exact db.mono hx (fun _ => ⟨rfl, gD.refl _ _⟩) (fun _ _ _ _ _ q => q) (fun _ _ _ _ => by simp only; rw [if_neg (fun q => hc q.1)]) (fun _ _ => rfl) (R.bj _ _ e)
 ·intro c c' o o' l l' a' e e' w w' n1 n2 l1 l2
  obtain ⟨p, e, w⟩ := hold e w
  obtain ⟨p', e', w'⟩ := hold e' w'
  exact R.inj _ _ _ _ _ _ _ e e' w w' n1 n2 l1 l2
 ·intro c o l a' e w n1 l1
  obtain ⟨p, e, w⟩ := hold e w
  exact R.mL _ _ _ _ e w n1 l1
 ·intro c v hv
  have hv : sh.next + 1 <= v := hv
  simp only; rw [if_neg (by omega)]; exact R.kb _ _ (by omega)
 ·intro c o e
  show c < sh.next + 1
  rcases hget e with ⟨rfl, rfl⟩ | ⟨_, e⟩
  ·have := R.b4 _ _ hg; omega
  ·have := R.b4 _ _ e; omega
 ·refine R.tr.step (fun c o e w => ?_) (fun c o a e w ha q => q) (fun c o l a e w n1 l1 => ?_) (Nat.le_refl _)
  ·rcases hget e with ⟨rfl, rfl⟩ | ⟨_, e⟩
   ·rw [ht1] at w; cases w
   ·exact ⟨_, e, w, rfl⟩
  ·obtain ⟨p, e, w⟩ := hold e w
   exact .inl ⟨_, _, _, e, w, n1, l1⟩
theorem xz {sh : ae} {c b : Nat} (hne : b ≠ c) : (eY sh (.view c)).get b = sh.get b := by
 simp only [eY]
 split
 ·show (sh.t.set c _).get b = sh.t.get b
  rw [Tr.aP, if_neg hne]
 ·show (sh.t.set c _).get b = sh.t.get b
  rw [Tr.aP, if_neg hne]
 ·rfl
theorem kF (R : HR P h0 h H ρ sh) (b : Nat) : ∃ H', aM h H h H' /\ HR P h0 h H' ρ (lZ sh b) /\ aS h0 H H' := by
 have stay : ∃ H', aM h H h H' /\ HR P h0 h H' ρ sh /\ aS h0 H H' := ⟨H, aM.refl _ _, R, aS.refl _ _⟩
 unfold lZ
 split
 case h_2 => exact stay
 rename_i t et e i c hg
 simp only
 split
 case h_2 => exact stay
 rename_i t' e' n' hc
 cases hte : Nat.beq t' et with
 | false => exact stay
 | true =>
 have hte := aq hte
 subst hte
 simp only [cond_true]
 by_cases hbc : b = c
 ·subst hbc
  exfalso
  simp only [eY, hg] at hc
  cases hc
 obtain ⟨H1, x1, R1, s1⟩ := lK R (.view c)
 have hg1 : (eY sh (.view c)).get b = some (.dW t t' e i c) := by rw [xz hbc]; exact hg
 have ho := R1.bj _ _ hg1
 generalize eY sh (.view c) = sh1 at R1 hc hg1 ho
 cases ho with
 | dW q1 q2 q3 q4 q5 q6 q7 q8 q9 q10 =>
  rename_i m a len l acs
  obtain ⟨av, k1, k2⟩ := q9
  have hfz := R1.bj _ _ hc
  obtain ⟨H2, x2, R2, s2⟩ := n6 (acs := acs) (o1 := .arr t (.set e i e') sh1.next) R1 hg1 rfl rfl rfl rfl fun H' x n k s => by
   refine .arr (l := l.set m (e'.v ρ)) ?_ (by rw [n]; exact q2) ⟨q3, by omega, by rw [q5]; simp, q6, ?_⟩ k
   ·simp only [E.v, q1, q7, V.set, V.bx, Int.ofNat_eq_natCast, Int.toNat_natCast]
   ·have row : bQ 1 (PV P h H'.S deep t) (l.set m .nil) (acs.set m .aV) := q10.imp fun _ _ p => p.mono x.kept
    have hx : PV P h H'.S deep t (e'.v ρ) [av] := by
     refine ⟨q3, ?_⟩
     rw [q4.1]
     cases hfz with
     | ic z1 z2 z3 z4 z5 =>
      refine ⟨av, _, rfl, z1, z2, .inl ⟨z3, ?_⟩⟩
      rcases k2 with ⟨_, w⟩ | ⟨_, _, _, w, _⟩
      ·exact w
      ·rw [z4] at w; cases w
     | dK z1 z2 z3 z4 z5 =>
      rcases k2 with ⟨w, _⟩ | ⟨_, _, _, w, w2⟩
      ·rw [z2] at w; cases w
      ·rw [z2] at w; cases w
       have hrl := z3.row.length
       refine ⟨av, _, rfl, z3.size, z3.pos, .inr ⟨_, z1, .inl ⟨_, 0, _, by rw [w2, z3.len], (s _).2 z4, z3.get, by omega, ?_⟩⟩⟩
       rw [List.drop_zero, List.take_of_length_le (by omega)]
       exact z3.row.imp fun _ _ p => (p.mono x.kept).fin q4.2
    have hlt := (List.getElem?_eq_some_iff.1 k1).1
    have r2 := row.set (x := e'.v ρ) (c := [av]) rfl hx m (by simpa using q8)
    rw [List.set_set] at r2
    have : aB (acs.set m .aV) (m * [av].length) [av] = acs := by
     have e1 : aB (acs.set m .aV) m [av] = (acs.set m .aV).set m av := by
      generalize hB : acs.set m .aV = B
      have hBl : m < B.length := by rw [<- hB]; simpa using hlt
      rw [List.set_eq_take_append_cons_drop, if_pos hBl]; simp [aB]
     show aB (acs.set m .aV) (m * 1) [av] = acs
     rw [Nat.mul_one, e1, List.set_set]
     apply List.ext_getElem?
     intro k
     rw [List.getElem?_set]
     by_cases hk : m = k
     ·subst hk; rw [if_pos rfl, if_pos hlt, k1]
     ·rw [if_neg hk]
    rw [this] at r2
    exact r2
  exact ⟨H2, x1.trans x2, R2, s1.trans s2⟩
theorem qB (R : HR P h0 h H ρ sh) (x : SV) : ∃ H', aM h H h H' /\ HR P h0 h H' ρ (iw sh x) /\ aS h0 H H' := by
 unfold iw
 split
 ·rename_i b
  obtain ⟨H1, x1, R1, s1⟩ := kF R b
  obtain ⟨H2, x2, R2, s2⟩ := lK R1 (.view b)
  exact ⟨H2, x1.trans x2, R2, s1.trans s2⟩
 ·exact lK R x
theorem dS : ∀ (l : List SV) {sh : ae} {H : Hid}, HR P h0 h H ρ sh -> ∃ H', aM h H h H' /\ HR P h0 h H' ρ (dG sh l) /\ aS h0 H H'
 | [], sh, H, R => ⟨H, aM.refl _ _, R, aS.refl _ _⟩
 | x :: l, sh, H, R => by
  obtain ⟨H1, x1, R1, s1⟩ := qB R x
  obtain ⟨H2, x2, R2, s2⟩ := dS l R1
  exact ⟨H2, x1.trans x2, R2, s1.trans s2⟩
noncomputable def Hid.new (H : Hid) (b : Nat) (l : Loc) (acs : List AV) : Hid :=
 { H with ν := fun c => if c = b then some l else H.ν c, κb := fun c v => if c = b /\ v = b then acs else H.κb c v }
theorem zT (R : HR P h0 h H ρ sh) (l : Loc) (acs : List AV) {h' : ah} (hk : ∀ c, H.S c -> h'.get c = h.get c) : aM h H h' (H.new sh.next l acs) :=
 ⟨fun b l' e => by
   simp only [Hid.new]
   rw [if_neg (by have := R.vu e; omega)]; exact e,
  fun _ _ _ e => e,
  fun b v j av e => by
   simp only [Hid.new]
   split
   ·rename_i hc; obtain ⟨rfl, rfl⟩ := hc; rw [R.kb _ _ (Nat.le_refl _)] at e; simp at e
   ·exact e,
  fun b hb => ⟨hb, fun _ e => by rw [hk b hb]; exact e⟩⟩
theorem HR.new (R : HR P h0 h H ρ sh) {o : b5} {ob : fO} {l : Loc} {acs : List AV} (hl : l.at = some h.next) (ho : aM h H (h.new ob) (H.new sh.next l acs) -> db P (h.new ob) (H.new sh.next l acs) ρ sh.next o) (hnt : bf o = false := by rfl) :
  aM h H (h.new ob) (H.new sh.next l acs) /\ HR P h0 (h.new ob) (H.new sh.next l acs) ρ (sh.new o) := by
 have hx : aM h H (h.new ob) (H.new sh.next l acs) := zT R l acs fun c hc => by
  rw [ah.aQ, if_neg (by have := R.fN c hc; omega)]
 have old : ∀ {b : Nat} {o' : b5}, sh.get b = some o' -> b ≠ sh.next := fun e => by have := R.b4 _ _ e; omega
 refine ⟨hx, ⟨?_, ?_, ?_, ?_, ?_, ?_, ?_, ?_, R.ka, ?_, ?_, ?_, ?_⟩⟩
 ·intro b o' e
  rw [ae.aQ] at e
  split at e
  ·rename_i hb; subst hb; cases e; exact ho hx
  ·refine db.mono hx (fun w => ⟨rfl, fun c hc ob g => by rw [ah.aQ, if_neg (by have := (R.tr.lt _ _ e w c hc).2.2; omega)]; exact g⟩) ?_ ?_ (fun _ _ => rfl) (R.bj _ _ e)
   ·intro l' a n1 l1 ob' g
    rw [ah.aQ, if_neg (by have := R.cV _ _ _ n1 l1; omega)]; exact g
   ·intro t e' ib he
    simp only [Hid.new]; rw [if_neg (fun q => old e q.1)]
 ·intro b b' o1 o2 l1 l2 a e1 e2 w1 w2 n1 n2 a1 a2
  rw [ae.aQ] at e1 e2
  simp only [Hid.new] at n1 n2
  split at e1
  ·rename_i hb
   rw [if_pos hb] at n1; cases n1
   rw [hl] at a1; cases a1
   split at e2
   ·rename_i hb'; rw [hb, hb']
   ·rename_i hb'
    rw [if_neg hb'] at n2
    have := R.cV _ _ _ n2 a2; omega
  ·rename_i hb
   rw [if_neg hb] at n1
   split at e2
   ·rename_i hb'
    rw [if_pos hb'] at n2; cases n2
    rw [hl] at a2; cases a2
    have := R.cV _ _ _ n1 a1; omega
   ·rename_i hb'
    rw [if_neg hb'] at n2
    exact R.inj _ _ _ _ _ _ _ e1 e2 w1 w2 n1 n2 a1 a2
 ·intro b o1 l1 a e1 w1 n1 a1
  rw [ae.aQ] at e1
  simp only [Hid.new] at n1 ⊢
  split at e1
  ·rename_i hb
   rw [if_pos hb] at n1; cases n1
   rw [hl] at a1; cases a1
   exact ⟨fun q => by have := R.fN _ q; omega, R.next⟩
  ·rename_i hb
   rw [if_neg hb] at n1
   exact R.mL _ _ _ _ e1 w1 n1 a1
 ·intro a ha; have := R.fN a ha; show a < h.next + 1; omega
 ·show h0.next <= h.next + 1; have := R.next; omega
 ·intro c hc
  rw [ah.aQ, if_neg (by have := R.next; omega)]; exact R.cJ c hc
 ·intro b hb
  have hb : sh.next + 1 <= b := hb
  simp only [Hid.new]; rw [if_neg (by omega)]; exact R.cR _ (by omega)
 ·intro b l1 a n1 a1
  simp only [Hid.new] at n1
  show a < h.next + 1
  split at n1
  ·cases n1; rw [hl] at a1; cases a1; omega
  ·have := R.cV _ _ _ n1 a1; omega
 ·intro b v hv
  have hv : sh.next + 1 <= v := hv
  simp only [Hid.new]; rw [if_neg (by omega)]; exact R.kb _ _ (by omega)
 ·intro c hc
  have hc : h.next + 1 <= c := hc
  rw [ah.aQ, if_neg (by omega)]; exact R.none_ _ (by omega)
 ·intro b o' e
  show b < sh.next + 1
  rw [ae.aQ] at e
  split at e
  ·omega
  ·have := R.b4 _ _ e; omega
 ·refine R.tr.step (fun c o' e w => ?_) (fun c o' a e w ha q => q) (fun c o' l' a e w n1 l1 => ?_) (by show h.next <= h.next + 1; omega)
  ·rw [ae.aQ] at e
   split at e
   ·cases e; rw [hnt] at w; cases w
   ·exact ⟨o', e, w, rfl⟩
  ·rw [ae.aQ] at e
   simp only [Hid.new] at n1
   split at e
   ·rename_i hc
    rw [if_pos hc] at n1; cases n1
    rw [hl] at l1; cases l1
    exact .inr (.inl (Nat.le_refl _))
   ·rename_i hc
    rw [if_neg hc] at n1
    exact .inl ⟨c, o', l', e, w, n1, l1⟩
end
end Go.Sym
namespace Go.Sym
open Go Go.a9
section
variable {P : Program} {h : ah} {H : Hid} {ρ : Env} {h0 : ah} {sh : ae}
theorem gF.mono {h' : ah} {H' : Hid} (x : aM h H h' H') {a : List (Nat × SV)} {b : List (Nat × AV)} (g : gF P h H ρ a b) : gF P h' H' ρ a b := by
 induction g with
 | nil => exact .nil
 | cons a b ih => exact .cons (a.mono x) ih
theorem gF.length {a : List (Nat × SV)} {b : List (Nat × AV)} (g : gF P h H ρ a b) : a.length = b.length := by
 induction g with
 | nil => rfl
 | cons a b ih => simp [ih]
theorem rB : ∀ (l : List E), (qw l).v ρ = .list (l.map (E.v ρ)) := by
 have key : ∀ (l : List E) (e : E) (m : List V), e.v ρ = .list m -> (l.foldl .snoc e).v ρ = .list (m ++ l.map (E.v ρ)) := by
  intro l
  induction l with
  | nil => intro e m he; simpa using he
  | cons x l ih => intro e m he; rw [List.foldl_cons, ih _ _ (vd he)]; simp
 intro l
 exact key l .emp [] rfl
theorem dQ (z : List AV) : ∀ n, (dE z n).length = n * z.length
 | 0 => by simp [dE]
 | n + 1 => by simp [dE, dQ z n, Nat.succ_mul]; omega
theorem oX {t : TypeId} {i : TypeInfo} (e : P.info? t = some i) : aA P t = some i.size := by simp [aA, e]
theorem uy (R : HR P h0 h H ρ sh) {et : TypeId} {s : Nat} (hs : aA P et = some s) {z : List AV} (hz : z.length = s) : ∀ {ps : List (Nat × SV)} {qs : List (Nat × AV)} {j : Nat} {l : List E} {pre : List AV}, gF P h H ρ ps qs -> lh P sh et s j ps = some l -> pre.length = j * s ->
  ∃ cs, eP (fun i => some (i * s, s)) (pre ++ dE z ps.length) qs = some (pre ++ cs) /\ bQ s (PV P h H.S deep et) (l.map (E.v ρ)) cs
 | [], _, j, l, pre, .nil, e, hp => by
  simp [lh] at e; subst e
  exact ⟨[], by simp [eP, dE], rfl⟩
 | (i, v) :: ps, _, j, l, pre, .cons (u := u) (us := us) g1 g2, e, hp => by
  unfold lh at e
  split at e
  ·cases e
  ·rename_i hv
   have hv' : v ≠ .bad := fun q => hv q
   obtain ⟨hc, e⟩ := aj e
   simp only [Bool.and_eq_true] at hc
   have hi := aq hc.1
   have hlen := aq hc.2
   subst hi
   split at e
   ·rename_i e1 l1 h1 h2
    cases e
    have c1 := g1.cells' hv'
    obtain ⟨c, r, w1, w2⟩ := fU R h1 c1
    have lc := w2.length
    rw [hs] at lc; cases lc
    have hr : r = [] := by
     have := c1.length
     rw [w1] at this
     simp at this
     exact List.length_eq_zero_iff.1 (by omega)
    subst hr
    rw [List.append_nil] at w1
    have hu := g1.vx hv'
    obtain ⟨cs, k1, k2⟩ := uy R hs hz (pre := pre ++ c) g2 h2 (by simp [hp, Nat.succ_mul])
    refine ⟨c ++ cs, ?_, ⟨c, cs, rfl, rfl, w2, k2⟩⟩
    have hsp : aB (pre ++ dE z ((i, v) :: ps).length) (i * c.length) u.cells = pre ++ c ++ dE z ps.length := by
     unfold aB
     rw [w1, <- hp, List.take_left' rfl, <- List.drop_drop, List.drop_left' rfl]
     simp only [List.length_cons, dE]
     rw [<- hz, List.drop_left' rfl]
    have hfit : (Nat.beq u.cells.length c.length && Nat.ble (i * c.length + u.cells.length) (pre ++ dE z ((i, v) :: ps).length).length) = true := by
     simp only [Bool.and_eq_true]
     refine ⟨by rw [w1]; simp, ?_⟩
     rw [Nat.ble_eq, w1, List.length_append, dQ, hp, hz]
     simp [Nat.succ_mul]
    unfold eP
    cases u <;> first | exact absurd rfl hu | skip
    all_goals
     simp only
     rw [hfit, cond_true, hsp, k1, List.append_assoc]
   ·cases e
theorem yw (R : HR P h0 h H ρ sh) {x : Tr SV} {y : Tr AV} (g : mZ P h H ρ x y) {o : Oper} {v : SV} {l : List E} {sh' : ae} (e : sc P sh x o = some (sh', v, l)) (hl : bo ρ l) :
  ∃ ob u H', bz P h y o = none /\ bH P h.next y o = some (ob, u) /\ aM h H (h.new ob) H' /\ HR P h0 (h.new ob) H' ρ sh' /\ SD P (h.new ob) H' ρ v u /\ aS h0 H H' := by
 obtain ⟨dst, op, type, pos, after, guard⟩ := o
 unfold sc at e
 simp only at e
 -- a block of cells
 have cells : ∀ {z : SV} {u : AV}, SD P h H ρ z u -> z ≠ .bad -> z.cells.all SV.one = true -> u.cells.all AV.one = true /\ ∃ H', aM h H (h.new (.cells u.cells)) H' /\ HR P h0 (h.new (.cells u.cells)) H' ρ (sh.new (.cells z.cells)) /\ SD P (h.new (.cells u.cells)) H' ρ (.addr sh.next 0) (.ptr h.next 0) /\ aS h0 H H' := by
  intro z u gz hb hall
  have c1 := gz.cells' hb
  refine ⟨c1.one hall, H.new sh.next (.cells h.next) [], ?_⟩
  obtain ⟨x1, R1⟩ := R.new (o := .cells z.cells) (ob := .cells u.cells) (l := .cells h.next) (acs := []) rfl (fun x => .cells (a := h.next) (by simp [Hid.new]) (by rw [ah.aQ]; simp) (c1.mono x))
  exact ⟨x1, R1, .addr (by simp [Hid.new]), fun a ha => .inl ha⟩
 split at e
 ·-- alloc
  rename_i t
  split at e
  ·rename_i z hz
   obtain ⟨hall, e⟩ := aj e
   cases e
   obtain ⟨u, z1, z2⟩ := eh (h := h) (H := H) (ρ := ρ) hz
   have hb : z ≠ .bad := by
    intro q; subst q; simp [SV.cells, SV.one] at hall
   obtain ⟨c1, H', x1, R1, s1, g1⟩ := cells z2 hb hall
   exact ⟨_, _, H', rfl, by simp only [bH, z1, c1, cond_true], x1, R1, s1, g1⟩
  ·cases e
 ·-- box
  rename_i t a
  have ha := cM g a
  split at e
  ·cases e
  ·rename_i hb
   obtain ⟨hall, e⟩ := aj e
   cases e
   have hb' : aU x a ≠ .bad := fun q => hb q
   obtain ⟨c1, H', x1, R1, s1, g1⟩ := cells ha hb' hall
   have hu := ha.vx hb'
   refine ⟨_, _, H', rfl, ?_, x1, R1, s1, g1⟩
   simp only [bH]
   cases hq : evalOp y a <;> rw [hq] at c1 hu <;> first | exact absurd rfl hu | simp only [c1, cond_true]
 ·-- a literal
  rename_i t len parts
  split at e
  ·rename_i et hu
   split at e
   ·rename_i s z hs hz
    obtain ⟨hc, e⟩ := aj e
    simp only [Bool.and_eq_true] at hc
    obtain ⟨⟨⟨⟨c1, c2⟩, c3⟩, c4⟩, c5⟩ := hc
    split at e
    ·rename_i es hes
     cases e
     obtain ⟨H1, x1, R1, s1⟩ := dS (P := P) ((List.map (fun p => (p.1, aU x p.2)) parts.toList).flatMap fun p => p.2.cells) R
     obtain ⟨u, z1, z2⟩ := eh (h := h) (H := H) (ρ := ρ) hz
     have hb : z ≠ .bad := by
      intro q; subst q; simp [SV.cells, SV.one] at c5
     have zc := z2.cells' hb
     have zl : u.cells.length = s := by rw [<- zc.length]; exact aq c1
     have pr := (kj g parts.toList).mono x1
     obtain ⟨cs, k1, k2⟩ := uy R1 hs zl (pre := []) pr hes (by simp)
     have hlen : (List.map (fun p => (p.1, aU x p.2)) parts.toList).length = len := aq c4
     rw [hlen] at k1
     simp only [List.nil_append] at k1
     have cl := k2.length
     have el : es.length = len := by
      have : ∀ {ps : List (Nat × SV)} {j : Nat} {l : List E}, lh P (dG sh ((List.map (fun p => (p.1, aU x p.2)) parts.toList).flatMap fun p => p.2.cells)) et s j ps = some l -> l.length = ps.length := by
       intro ps
       induction ps with
       | nil => intro j l q; simp [lh] at q; subst q; rfl
       | cons p ps ih =>
        intro j l q
        obtain ⟨i, v⟩ := p
        unfold lh at q
        split at q
        ·cases q
        ·obtain ⟨_, q⟩ := aj q
         split at q
         ·rename_i q1 q2
          cases q
          simp [ih q2]
         ·cases q
      rw [this hes, hlen]
     have call : cs.all AV.one = true := by
      rw [List.all_eq_true]
      exact k2.all fun _ _ q => q.cell
     rw [List.length_map, el] at cl
     generalize hsh1 : dG sh ((List.map (fun p => (p.1, aU x p.2)) parts.toList).flatMap fun p => p.2.cells) = sh1 at R1 ⊢
     obtain ⟨x2, R2⟩ := R1.new (o := .arr et (qw es) sh1.next) (ob := .cells cs) (l := .nN h.next len s) (acs := cs) rfl
      (fun x => .arr (a := h.next) (len := len) (sz := s) (l := es.map (E.v ρ)) (rB es) (by simp [Hid.new]) ⟨hs, by simpa [Nat.blt_eq] using c2, by simp [el], by rw [ah.aQ]; simp, k2.imp fun _ _ q => q.mono x.kept⟩ (by simp [Hid.new]))
     refine ⟨.cells cs, .slice h.next 0 len s, _, rfl, ?_, x1.trans x2, R2, .view (by simp [Hid.new]), s1.trans fun a ha => .inl ha⟩
     simp only [bH, hu, hs, z1]
     have e1 : (Nat.beq u.cells.length s && Nat.blt 0 s && Nat.ble (len * s) 16777216 && u.cells.all AV.one) = true := by
      simp only [Bool.and_eq_true]
      exact ⟨⟨⟨by rw [zl]; simp, c2⟩, c3⟩, zc.one c5⟩
     rw [e1, cond_true, k1]
     simp [call]
    ·cases e
   ·cases e
  ·cases e
 ·-- make
  rename_i t ln cp
  split at e
  ·rename_i et hu
   split at e
   ·rename_i i z k1 m k2 n hi hz hm hn
    obtain ⟨hc, e⟩ := aj e
    simp only [Bool.and_eq_true, decide_eq_true_eq] at hc
    obtain ⟨⟨⟨⟨c1, c2⟩, c3⟩, c4⟩, c5⟩ := hc
    subst c4
    split at e
    ·rename_i ze hze
     cases e
     rw [cA, and'_b, le'_b, le'_b, Bool.and_eq_true, ao, ao] at hl
     obtain ⟨l1, l2⟩ := hl
     change 0 <= m.i ρ at l1
     change m.i ρ <= Int.ofNat (140737488355328 / i.bytes) at l2
     obtain ⟨u, z1, z2⟩ := eh (h := h) (H := H) (ρ := ρ) hz
     have hb : z ≠ .bad := by
      intro q; subst q; simp [SV.cells, SV.one] at c5
     have zc := z2.cells' hb
     obtain ⟨c, r, w1, w2⟩ := fU R hze zc
     have lc := w2.length
     rw [oX hi] at lc
     have hlz : u.cells.length = i.size := by rw [<- zc.length]; exact aq c1
     have hr : r = [] := by
      rw [w1] at hlz
      simp at hlz
      simp at lc
      exact List.length_eq_zero_iff.1 (by omega)
     subst hr
     rw [List.append_nil] at w1
     obtain ⟨N, hN⟩ : ∃ N : Nat, m.i ρ = Int.ofNat N := ⟨(m.i ρ).toNat, by simp; omega⟩
     have hNb : N <= 140737488355328 / i.bytes := by rw [hN] at l2; exact Int.ofNat_le.1 l2
     have hbp : 0 < i.bytes := by simpa [Nat.blt_eq] using c3
     have hmul : N * i.bytes <= 140737488355328 := Nat.le_trans (Nat.mul_le_mul_right _ hNb) (Nat.div_mul_le_self _ _)
     have hNs : N <= 140737488355328 := Nat.le_trans (Nat.le_mul_of_pos_right N hbp) hmul
     have hsz : aA P et = some i.size := oX hi
     have row : bQ i.size (PV P h H.S deep et) (List.replicate N (ze.v ρ)) (dE u.cells N) := by
      rw [w1]; exact bQ.replicate (by simpa using lc.symm) w2 N
     obtain ⟨x2, R2⟩ := R.new (o := .arr et (.rep m ze) sh.next) (ob := .cells (dE u.cells N)) (l := .nN h.next N i.size) (acs := dE u.cells N) rfl
      (fun x => .arr (a := h.next) (len := N) (sz := i.size) (l := List.replicate N (ze.v ρ)) (by simp [E.v, V.rep, hN]) (by simp [Hid.new]) ⟨hsz, by simpa [Nat.blt_eq] using c2, by simp, by rw [ah.aQ]; simp, row.imp fun _ _ q => q.mono x.kept⟩ (by simp [Hid.new]))
     refine ⟨.cells (dE u.cells N), .slice h.next 0 N i.size, _, rfl, ?_, x2, R2, .view (by simp [Hid.new]), fun a ha => .inl ha⟩
     have em := cM g ln
     have ec := cM g cp
     rw [hm] at em
     rw [hn] at ec
     have em' : evalOp y ln = .int k1 (.ofNat N) := by
      cases hq : evalOp y ln <;> rw [hq] at em <;> cases em
      rw [hN]
     have ec' : evalOp y cp = .int k2 (.ofNat N) := by
      cases hq : evalOp y cp <;> rw [hq] at ec <;> cases ec
      rw [hN]
     simp only [bH, hu, hi, z1, em', ec']
     have e1 : (Nat.beq u.cells.length i.size && Nat.blt 0 i.size && Nat.beq N N && Nat.ble (N * i.bytes) 140737488355328 && Nat.ble N 4611686018427387904 && u.cells.all AV.one) = true := by
      simp only [Bool.and_eq_true]
      refine ⟨⟨⟨⟨⟨by rw [hlz]; simp, c2⟩, by simp⟩, by rw [Nat.ble_eq]; exact hmul⟩, by rw [Nat.ble_eq]; omega⟩, ?_⟩
      rw [List.all_eq_true, w1]
      exact w2.cell
     rw [e1, cond_true]
    ·cases e
   ·cases e
  ·cases e
 ·cases e
end
end Go.Sym
namespace Go.Sym
open Go Go.a9
section
variable {P : Program} {h : ah} {H : Hid} {ρ : Env} {h0 : ah} {sh : ae}
theorem HR.Df (R : HR P h0 h H ρ sh) (b : Nat) : HR P h0 h H ρ (sh.kill b) := by
 have hk : ∀ {c : Nat} {o : b5}, (sh.kill b).get c = some o -> sh.get c = some o := by
  intro c o e
  rw [ae.bO] at e
  split at e
  ·cases e
  ·exact e
 exact ⟨fun c o e => R.bj _ _ (hk e), fun _ _ _ _ _ _ _ e e' => R.inj _ _ _ _ _ _ _ (hk e) (hk e'), fun _ _ _ _ e => R.mL _ _ _ _ (hk e), R.fN, R.next, R.cJ, R.cR, R.cV, R.ka, R.kb, R.none_, fun _ _ e => R.b4 _ _ (hk e), R.tr.step (fun _ _ e w => ⟨_, hk e, w, rfl⟩) (fun _ _ _ _ _ _ q => q) (fun _ _ _ _ e w n l => .inl ⟨_, _, _, hk e, w, n, l⟩) (Nat.le_refl _)⟩
theorem HR.D3 (R : HR P h0 h H ρ sh) {a : Nat} (hS : ¬ H.S a) (hb : h0.next <= a) (hno : ∀ c o l, sh.get c = some o -> H.ν c = some l -> l.at = some a -> False) (hnt : ∀ c o, sh.get c = some o -> bf o = true -> a ∉ H.fp c) : aM h H (h.kill a) H /\ HR P h0 (h.kill a) H ρ sh := by
 have hx : aM h H (h.kill a) H := ⟨fun _ _ e => e, fun _ _ _ e => e, fun _ _ _ _ e => e, fun c hc => ⟨hc, fun _ e => by
  rw [ah.bO, if_neg (fun q => by subst q; exact hS hc)]; exact e⟩⟩
 refine ⟨hx, ⟨?_, R.inj, R.mL, R.fN, R.next, ?_, R.cR, R.cV, R.ka, R.kb, ?_, R.b4, R.tr.step (fun _ _ e w => ⟨_, e, w, rfl⟩) (fun _ _ _ _ _ _ q => q) (fun _ _ _ _ e w n l => .inl ⟨_, _, _, e, w, n, l⟩) (Nat.le_refl _)⟩⟩
 ·intro c o e
  refine db.mono hx (fun w => ⟨rfl, fun b hbb ob g => by rw [ah.bO, if_neg (fun q => by subst q; exact hnt _ _ e w hbb)]; exact g⟩) ?_ (fun _ _ _ _ => rfl) (fun _ _ => rfl) (R.bj _ _ e)
  intro l a' n1 l1 ob g
  rw [ah.bO, if_neg (fun q => by subst q; exact hno _ _ _ e n1 l1)]; exact g
 ·intro c hc
  rw [ah.bO, if_neg (by omega)]; exact R.cJ c hc
 ·intro c hc
  rw [ah.bO]; split
  ·rfl
  ·exact R.none_ c hc
theorem HR.alias (R : HR P h0 h H ρ sh) {o : b5} {l : Loc} {acs : List AV} (hno : ∀ a, l.at = some a -> ¬ H.S a /\ h0.next <= a /\ a < h.next /\ (∀ c o l', sh.get c = some o -> own o = true -> H.ν c = some l' -> l'.at = some a -> False) /\ ∀ c o, sh.get c = some o -> bf o = true -> a ∉ H.fp c) (ho : aM h H h (H.new sh.next l acs) -> db P h (H.new sh.next l acs) ρ sh.next o) (hnt : bf o = false := by rfl) :
  aM h H h (H.new sh.next l acs) /\ HR P h0 h (H.new sh.next l acs) ρ (sh.new o) := by
 have hx : aM h H h (H.new sh.next l acs) := zT R l acs fun c hc => rfl
 have old : ∀ {b : Nat} {o' : b5}, sh.get b = some o' -> b ≠ sh.next := fun e => by have := R.b4 _ _ e; omega
 refine ⟨hx, ⟨?_, ?_, ?_, R.fN, R.next, R.cJ, ?_, ?_, R.ka, ?_, R.none_, ?_, ?_⟩⟩
 ·intro b o' e
  rw [ae.aQ] at e
  split at e
  ·rename_i hb; subst hb; cases e; exact ho hx
  ·refine db.mono hx (fun _ => ⟨rfl, gD.refl _ _⟩) (fun _ _ _ _ _ g => g) ?_ (fun _ _ => rfl) (R.bj _ _ e)
   intro t e' ib he
   simp only [Hid.new]; rw [if_neg (fun q => old e q.1)]
 ·intro b b' o1 o2 l1 l2 a e1 e2 w1 w2 n1 n2 a1 a2
  rw [ae.aQ] at e1 e2
  simp only [Hid.new] at n1 n2
  split at e1
  ·rename_i hb
   rw [if_pos hb] at n1; cases n1
   split at e2
   ·rename_i hb'; rw [hb, hb']
   ·rename_i hb'
    rw [if_neg hb'] at n2
    exact ((hno _ a1).2.2.2.1 _ _ _ e2 w2 n2 a2).elim
  ·rename_i hb
   rw [if_neg hb] at n1
   split at e2
   ·rename_i hb'
    rw [if_pos hb'] at n2; cases n2
    exact ((hno _ a2).2.2.2.1 _ _ _ e1 w1 n1 a1).elim
   ·rename_i hb'
    rw [if_neg hb'] at n2
    exact R.inj _ _ _ _ _ _ _ e1 e2 w1 w2 n1 n2 a1 a2
 ·intro b o1 l1 a e1 w1 n1 a1
  rw [ae.aQ] at e1
  simp only [Hid.new] at n1 ⊢
  split at e1
  ·rename_i hb
   rw [if_pos hb] at n1; cases n1
   exact ⟨(hno _ a1).1, (hno _ a1).2.1⟩
  ·rename_i hb
   rw [if_neg hb] at n1
   exact R.mL _ _ _ _ e1 w1 n1 a1
 ·intro b hb
  have hb : sh.next + 1 <= b := hb
  simp only [Hid.new]; rw [if_neg (by omega)]; exact R.cR _ (by omega)
 ·intro b l1 a n1 a1
  simp only [Hid.new] at n1
  split at n1
  ·cases n1; exact (hno _ a1).2.2.1
  ·exact R.cV _ _ _ n1 a1
 ·intro b v hv
  have hv : sh.next + 1 <= v := hv
  simp only [Hid.new]; rw [if_neg (by omega)]; exact R.kb _ _ (by omega)
 ·intro b o' e
  show b < sh.next + 1
  rw [ae.aQ] at e
  split at e
  ·omega
  ·have := R.b4 _ _ e; omega
 ·refine R.tr.step (fun c o' e w => ?_) (fun c o' a e w ha q => q) (fun c o' l' a e w n1 l1 => ?_) (Nat.le_refl _)
  ·rw [ae.aQ] at e
   split at e
   ·cases e; rw [hnt] at w; cases w
   ·exact ⟨o', e, w, rfl⟩
  ·rw [ae.aQ] at e
   simp only [Hid.new] at n1
   split at e
   ·rename_i hc
    rw [if_pos hc] at n1; cases n1
    exact .inr (.inr (hno _ l1).2.2.2.2)
   ·rename_i hc
    rw [if_neg hc] at n1
    exact .inl ⟨c, o', l', e, w, n1, l1⟩
noncomputable def Hid.ib (H : Hid) (b v : Nat) (acs : List AV) : Hid := { H with κb := fun c w => if c = b /\ w = v then acs else H.κb c w }
theorem HR.gH (R : HR P h0 h H ρ sh) {b a : Nat} {o0 o : b5} {l : Loc} {ob : fO} {acs : List AV} {sh' : ae} (hg : sh.get b = some o0) (hown : own o0 = true) (ho1 : own o = true) (hn : H.ν b = some l) (hl : l.at = some a) (ht : sh'.t = sh.t.set b o) (hats : sh'.iz = sh.iz) (hnx : (acs = [] /\ sh'.next = sh.next) \/ sh'.next = sh.next + 1)
  (ho : aM h H (h.set a ob) (H.ib b sh.next acs) -> db P (h.set a ob) (H.ib b sh.next acs) ρ b o) (hnt : bf o = false := by rfl) :
  aM h H (h.set a ob) (H.ib b sh.next acs) /\ HR P h0 (h.set a ob) (H.ib b sh.next acs) ρ sh' := by
 obtain ⟨hS, hbase⟩ := R.mL _ _ _ _ hg hown hn hl
 have hlt := R.cV _ _ _ hn hl
 have hx : aM h H (h.set a ob) (H.ib b sh.next acs) := ⟨fun _ _ e => e, fun _ _ _ e => e, fun c v j av e => by
   simp only [Hid.ib]
   split
   ·rename_i hc; obtain ⟨rfl, rfl⟩ := hc; rw [R.kb _ _ (Nat.le_refl _)] at e; simp at e
   ·exact e, fun c hc => ⟨hc, fun _ e => by rw [ah.aP, if_neg (fun q => by subst q; exact hS hc)]; exact e⟩⟩
 have hget : ∀ {c : Nat} {o' : b5}, sh'.get c = some o' -> (c = b /\ o' = o) \/ (c ≠ b /\ sh.get c = some o') := by
  intro c o' e
  have : (sh.t.set b o).get c = some o' := by rw [<- ht]; exact e
  rw [Tr.aP] at this
  split at this
  ·rename_i hc; cases this; exact .inl ⟨hc, rfl⟩
  ·rename_i hc; exact .inr ⟨hc, this⟩
 have hnext : sh.next <= sh'.next := by rcases hnx with ⟨_, q⟩ | q <;> omega
 refine ⟨hx, ⟨?_, ?_, ?_, R.fN, R.next, ?_, ?_, R.cV, by rw [hats]; exact R.ka, ?_, ?_, ?_, ?_⟩⟩
 ·intro c o' e
  rcases hget e with ⟨rfl, rfl⟩ | ⟨hc, e⟩
  ·exact ho hx
  ·by_cases hw : own o' = true
   ·refine db.mono hx (fun w => ⟨rfl, fun a' ha ob' g => by rw [ah.aP, if_neg (fun q => by subst q; exact R.tr.ow _ _ _ _ _ _ e w ha hg hown hn hl)]; exact g⟩) ?_ ?_ (fun _ _ => rfl) (R.bj _ _ e)
    ·intro l' a' n1 l1 ob' g
     rw [ah.aP, if_neg (fun q => by subst q; exact hc (R.inj _ _ _ _ _ _ _ e hg hw hown n1 hn l1 hl))]; exact g
    ·intro t e' ib he
     simp only [Hid.ib]; rw [if_neg (fun q => hc q.1)]
   ·have ho' := R.bj _ _ e
    cases ho' with
    | ic q1 q2 q3 q4 q5 => exact .ic q1 q2 q3 q4 q5
    | dK q1 q2 q3 q4 q5 => exact .dK q1 q2 (q3.mono hx ((hx.kept _ q4).2 _ q3.get)) q4 q5
    | _ => exact absurd rfl hw
 ·intro c c' o1 o2 l1 l2 a' e1 e2 w1 w2 n1 n2 a1 a2
  have e1' : ∃ o, sh.get c = some o /\ own o = true := by
   rcases hget e1 with ⟨rfl, rfl⟩ | ⟨_, e⟩
   ·exact ⟨_, hg, hown⟩
   ·exact ⟨_, e, w1⟩
  have e2' : ∃ o, sh.get c' = some o /\ own o = true := by
   rcases hget e2 with ⟨rfl, rfl⟩ | ⟨_, e⟩
   ·exact ⟨_, hg, hown⟩
   ·exact ⟨_, e, w2⟩
  obtain ⟨p1, e1, w1⟩ := e1'
  obtain ⟨p2, e2, w2⟩ := e2'
  exact R.inj _ _ _ _ _ _ _ e1 e2 w1 w2 n1 n2 a1 a2
 ·intro c o1 l1 a' e1 w1 n1 a1
  rcases hget e1 with ⟨rfl, rfl⟩ | ⟨_, e⟩
  ·exact R.mL _ _ _ _ hg hown n1 a1
  ·exact R.mL _ _ _ _ e w1 n1 a1
 ·intro c hc
  rw [ah.aP, if_neg (by omega)]; exact R.cJ c hc
 ·intro c hc; exact R.cR c (by omega)
 ·intro c v hv
  simp only [Hid.ib]
  split
  ·rename_i hc
   rcases hnx with ⟨q, _⟩ | q
   ·exact q
   ·omega
  ·exact R.kb _ _ (by omega)
 ·intro c hc
  have hc : h.next <= c := hc
  rw [ah.aP, if_neg (by omega)]; exact R.none_ c hc
 ·intro c o' e
  rcases hget e with ⟨rfl, rfl⟩ | ⟨_, e⟩
  ·have := R.b4 _ _ hg; omega
  ·have := R.b4 _ _ e; omega
 ·refine R.tr.step (fun c o' e w => ?_) (fun c o' a e w ha q => q) (fun c o' l' a e w n1 l1 => ?_) (Nat.le_refl _)
  ·rcases hget e with ⟨rfl, rfl⟩ | ⟨_, e⟩
   ·rw [hnt] at w; cases w
   ·exact ⟨_, e, w, rfl⟩
  ·rcases hget e with ⟨rfl, rfl⟩ | ⟨_, e⟩
   ·exact .inl ⟨_, _, _, hg, hown, n1, l1⟩
   ·exact .inl ⟨_, _, _, e, w, n1, l1⟩
end
end Go.Sym
namespace Go.Sym
open Go Go.a9
section
variable {P : Program} {h : ah} {H : Hid} {ρ : Env} {h0 : ah} {sh : ae}
theorem pZ.set {R : TypeId -> V -> List AV -> Prop} {x : V} {v : List AV} (hR : ∀ t x c, R t x c -> aA P t = some c.length) : ∀ {fs : List Field} {pos : Nat} {xs : List V} {cs : List AV}, pZ P R fs pos xs cs -> ∀ (i : Nat) (f : Field), fs[i]? = some f -> R f.type x v -> pZ P R fs pos (xs.set i x) (aB cs (f.offset - pos) v) /\ (aB cs (f.offset - pos) v).length = cs.length
 | [], _, _, _, _, i, f, e, _ => by simp at e
 | g :: fs, pos, _, _, ⟨y, ys, c, r, rfl, rfl, ho, ga, gb⟩, 0, f, e, hx => by
  simp at e; subst e
  have hl : v.length = c.length := by
   have h1 := hR _ _ _ ga; have h2 := hR _ _ _ hx
   rw [h1] at h2; simpa using h2.symm
  have : aB (c ++ r) (g.offset - pos) v = v ++ r := by
   rw [ho, Nat.sub_self]; simp [aB, hl]
  rw [this]
  exact ⟨⟨x, ys, v, r, rfl, rfl, ho, hx, by rw [hl]; exact gb⟩, by simp [hl]⟩
 | g :: fs, pos, _, _, ⟨y, ys, c, r, rfl, rfl, ho, ga, gb⟩, i + 1, f, e, hx => by
  have hf : fs[i]? = some f := by simpa using e
  obtain ⟨k1, k2⟩ := pZ.set hR gb i f hf hx
  obtain ⟨_, _, _, _, hle, _⟩ := gb.get i f hf
  have : aB (c ++ r) (f.offset - pos) v = c ++ aB r (f.offset - (pos + c.length)) v := by
   unfold aB
   rw [List.take_append, List.take_of_length_le (by omega), show f.offset - pos - c.length = f.offset - (pos + c.length) from by omega]
   rw [show f.offset - pos + v.length = c.length + (f.offset - (pos + c.length) + v.length) from by omega, <- List.drop_drop, List.drop_left' rfl]
   simp
  rw [this]
  exact ⟨⟨y, _, c, _, rfl, rfl, ho, ga, k1⟩, by simp [k2]⟩
theorem qg {S : Nat -> Prop} {et t : TypeId} {e x y : E} {off : Nat} {c v : List AV} (k : nW P et e off t x = some y) (gc : PV P h S deep et (e.v ρ) c) (gv : PV P h S 11 t (x.v ρ) v) (hv0 : 0 < v.length) : off + v.length <= c.length /\ PV P h S deep et (y.v ρ) (aB c off v) /\ (aB c off v).length = c.length := by
 unfold nW at k
 cases hb : (Nat.beq off 0 && Nat.beq t et) with
 | true =>
  rw [hb] at k
  simp at k; subst k
  simp only [Bool.and_eq_true] at hb
  have h1 := aq hb.1; have h2 := aq hb.2
  subst h1; subst h2
  have l1 := gc.length; have l2 := gv.length
  rw [l1] at l2
  have l3 : c.length = v.length := by simpa using l2
  have : aB c 0 v = v := by unfold aB; simp [<- l3]
  rw [this]
  exact ⟨by omega, gv.more, l3.symm⟩
 | false =>
  rw [hb] at k
  simp only [cond_false] at k
  split at k
  ·rename_i fields hu
   split at k
   ·rename_i j f hf
    obtain ⟨ht, k'⟩ := aj k
    have ht := aq ht
    cases k'
    obtain ⟨_, h2, h3⟩ := lN hf
    rw [Nat.sub_zero] at h2
    obtain ⟨g0, gc⟩ := gc
    rw [hu] at gc
    simp only at gc
    obtain ⟨xs, x1, x2⟩ := gc
    have gv' : PV P h S 11 f.type (x.v ρ) v := by rw [ht]; exact gv
    obtain ⟨w1, w2⟩ := x2.set (fun _ _ _ q => q.length) j f h2 gv'
    obtain ⟨_, c1, r1, _, _, y3, y4⟩ := x2.get j f h2
    rw [h3, Nat.sub_zero] at w1 w2 y3
    have hle : off + v.length <= c.length := by
     have l1 := y4.length; have l2 := gv'.length
     rw [l1] at l2
     have l3 : c1.length = v.length := by simpa using l2
     have := congrArg List.length y3
     simp at this
     omega
    refine ⟨hle, ⟨by rw [g0, w2], ?_⟩, w2⟩
    rw [hu]
    refine ⟨xs.set j (x.v ρ), ?_, w1⟩
    simp [E.v, x1, V.set, V.bx, E.i]
   ·cases k
  ·cases k
theorem yk (R : HR P h0 h H ρ sh) {t : TypeId} {a v : SV} {u w : AV} {sh' : ae} {l : List E} (ga : SD P h H ρ a u) (gv : SD P h H ρ v w) (e : u9 P sh t a v = some (sh', l)) (hl : bo ρ l) :
  ∃ h' H', gA P h t u w = some h' /\ aM h H h' H' /\ HR P h0 h' H' ρ sh' /\ aS h0 H H' := by
 unfold u9 at e
 split at e
 ·rename_i b off
  split at e
  ·rename_i cs hg
   split at e
   ·rename_i s hs
    obtain ⟨hc, e⟩ := aj e
    cases e
    simp only [Bool.and_eq_true] at hc
    obtain ⟨⟨c1, c2⟩, c3⟩ := hc
    have ho := R.bj _ _ hg
    cases ho with
    | cells q1 q2 q3 =>
     rename_i a acs
     cases ga with
     | addr q4 =>
      rw [q1] at q4; cases q4
      have hb : v ≠ .bad := by intro q; subst q; simp [SV.cells, SV.one] at c3
      have vc := gv.cells' hb
      have l1 := vc.length; have l2 := q3.length
      obtain ⟨x1, R1⟩ := R.gH (o := .cells (jl cs off v.cells)) (ob := .cells (aB acs off w.cells)) (acs := []) (sh' := sh.set b (.cells (jl cs off v.cells))) hg rfl rfl q1 rfl rfl rfl (.inl ⟨rfl, rfl⟩)
       (fun x => .cells (a := a) (acs := aB acs off w.cells) q1 (by rw [ah.aP]; simp) (by
        have : cB P h H ρ (jl cs off v.cells) (aB acs off w.cells) := by
         unfold jl aB
         rw [<- l1]
         exact ((q3.take off).append vc).append (q3.drop _)
        exact this.mono x))
      refine ⟨_, _, ?_, x1, R1, fun a ha => .inl ha⟩
      simp only [gA, q2, hs]
      rw [<- l1, <- l2, c1, c2, vc.one c3]
      rfl
   ·cases e
  ·cases e
 ·rename_i b i off
  obtain ⟨H1, x1, R1, s1⟩ := dS (P := P) v.cells R
  simp only at e
  generalize dG sh v.cells = sh1 at e R1
  split at e
  ·rename_i et e0 ib hg
   split at e
   ·rename_i s hs
    obtain ⟨hc, e⟩ := aj e
    simp only [Bool.and_eq_true] at hc
    obtain ⟨⟨hc, hpos⟩, hone⟩ := hc
    have hc := aq hc
    have hpos : 0 < s := by simpa [Nat.blt_eq] using hpos
    split at e
    ·rename_i x hx
     split at e
     ·rename_i y hy
      cases e
      have hi := ew.1 hl
      rw [len'_i] at hi
      have ho := R1.bj _ _ hg
      cases ho with
      | iA q1 q2 _ _ => rw [q1] at hi; simp [V.len, V.bx] at hi; omega
      | arr q1 q2 q3 q4 =>
       rename_i a len sz l acs
       rw [q1] at hi
       obtain ⟨m, hm1, hm2, hm3⟩ := dO hi.1 hi.2
       have hm2 : m < l.length := hm2
       have ga1 := ga.mono x1
       have gv1 := gv.mono x1
       cases ga1 with
       | bI q5 =>
        rw [q2] at q5; cases q5
        have hb : v ≠ .bad := by intro q; subst q; simp [SV.cells, SV.one] at hone
        have vc := gv1.cells' hb
        obtain ⟨cv, rv, w1, w2⟩ := fU R1 hx vc
        have lv := w2.length
        rw [hs] at lv
        have lc := vc.length
        have hrv : rv = [] := by
         rw [w1] at lc
         simp at lc lv
         exact List.length_eq_zero_iff.1 (by omega)
        subst hrv
        rw [List.append_nil] at w1
        obtain ⟨c, r, d1, d2, d3⟩ := PV.rE q3.size q3.row hm2
        have d3' : PV P h H1.S deep et ((e0.get' i).v ρ) c := by rw [get'_v, q1, hm1]; exact d3
        have lv' : cv.length = s := by simpa using lv.symm
        obtain ⟨p1, p2, p3⟩ := qg hy d3' w2 (by omega)
        have rl := q3.row.length
        have hmle : (m + 1) * sz <= l.length * sz := Nat.mul_le_mul_right _ hm2
        rw [Nat.succ_mul] at hmle
        have hsp := jx (v := cv) (off := off) d1 p1 (by omega)
        have row : bQ sz (PV P h H1.S deep et) (l.set m (y.v ρ)) (aB acs (m * sz + off) cv) := by
         rw [hsp]; exact q3.row.set (by rw [p3]; exact d2) p2 m hm2
        obtain ⟨x2, R2⟩ := R1.gH (o := .arr et (.set e0 i y) sh1.next) (ob := .cells (aB acs (m * sz + off) cv)) (acs := aB acs (m * sz + off) cv) (sh' := { sh1 with next := sh1.next + 1, t := sh1.t.set b (.arr et (.set e0 i y) sh1.next) }) hg rfl rfl q2 rfl rfl rfl (.inr rfl)
         (fun x => .arr (l := l.set m (y.v ρ)) (by simp [E.v, q1, V.set, V.bx, hm3]) q2 ⟨q3.size, q3.pos, by simpa using q3.len, by rw [ah.aP]; simp, row.imp fun _ _ q => q.mono x.kept⟩ (by simp [Hid.ib]))
        refine ⟨_, _, ?_, x1.trans x2, R2, s1.trans fun a ha => .inl ha⟩
        have wl : w.cells.length = s := by rw [w1]; simpa using lv.symm
        have h1 : (Nat.beq w.cells.length s && Nat.ble (m * sz + off + s) acs.length && w.cells.all AV.one) = true := by
         simp only [Bool.and_eq_true]
         refine ⟨⟨by rw [wl]; simp, ?_⟩, ?_⟩
         ·rw [Nat.ble_eq]
          have : cv.length = s := by simpa using lv.symm
          omega
         ·rw [List.all_eq_true, w1]; exact w2.cell
        simp only [gA, hm3, q3.get, hs]
        rw [h1, cond_true, w1]
     ·cases e
    ·cases e
   ·cases e
  ·cases e
 ·cases e
theorem app'_v (a : E) : ∀ b : E, (E.app' a b).v ρ = (a.v ρ).app (b.v ρ) := by
 intro b
 induction b with
 | nil => simp [E.app', E.v, V.app, V.bx]
 | emp => simp [E.app', E.v, V.app, V.bx]
 | snoc b y ih _ =>
  have hels : ∀ x z : V, (x.app z).bx = x.bx ++ z.bx := by
   intro x z
   unfold V.app
   split
   ·rename_i h; simp [h]
   ·rfl
  simp only [E.app', E.v, ih, V.snoc, hels]
  simp only [V.app, V.bx]
  cases hq : (b.v ρ).bx ++ [y.v ρ] with
  | nil => simp at hq
  | cons p q => simp only [V.bx] at hq ⊢; rw [List.append_assoc]; rw [hq]
 | _ => rfl
theorem oq {n bytes : Nat} (hb : 0 < bytes) (h0 : 0 < n) (h : n <= sI bytes) : (2 * n + 1024) * bytes <= 140737488355328 /\ n <= 2305843009213693952 := by
 unfold sI at h
 generalize hq : Nat.div 140737488355328 bytes = q at h
 have hq' : 140737488355328 / bytes = q := hq
 have h' : n <= (q - 1024) / 2 := h
 have h2 : 2 * n + 1024 <= q := by omega
 have h3 : q * bytes <= 140737488355328 := by rw [<- hq']; exact Nat.div_mul_le_self _ _
 have h4 : (2 * n + 1024) * bytes <= q * bytes := Nat.mul_le_mul_right _ h2
 have h5 : q <= 140737488355328 := Nat.le_trans (Nat.le_mul_of_pos_right q hb) h3
 exact ⟨Nat.le_trans h4 h3, by omega⟩
theorem wK (R : HR P h0 h H ρ sh) {st xt : TypeId} {s x v : SV} {u w : AV} {sh' : ae} {l : List E} (gs : SD P h H ρ s u) (gx : SD P h H ρ x w) (e : rp P sh st xt s x = some (v, sh', l)) (hl : bo ρ l) :
  ∃ r h' H', gR P h st xt u w = some (r, h') /\ aM h H h' H' /\ HR P h0 h' H' ρ sh' /\ SD P h' H' ρ v r /\ aS h0 H H' := by
 unfold rp at e
 split at e
 case h_2 => cases e
 rename_i et xe0 hst hxt
 split at e
 case h_2 => cases e
 rename_i i z hi hz
 obtain ⟨hc, e⟩ := aj e
 simp only [Bool.and_eq_true] at hc
 obtain ⟨⟨⟨c1, c2⟩, c3⟩, c4⟩ := hc
 have hsz : aA P et = some i.size := oX hi
 have hpos : 0 < i.size := by simpa [Nat.blt_eq] using c2
 have hbp : 0 < i.bytes := by simpa [Nat.blt_eq] using c3
 obtain ⟨zu, z1, z2⟩ := eh (h := h) (H := H) (ρ := ρ) hz
 have zb : z ≠ .bad := by intro q; subst q; simp [SV.cells, SV.one] at c4
 have zc := z2.cells' zb
 have hguard : (Nat.beq zu.cells.length i.size && Nat.blt 0 i.size && zu.cells.all AV.one) = true := by
  simp only [Bool.and_eq_true]
  exact ⟨⟨by rw [<- zc.length]; exact c1, c2⟩, zc.one c4⟩
 split at e
 case h_2 => cases e
 rename_i xe ex hex
 obtain ⟨hxe, e2⟩ := aj e
 clear e
 have hxe := aq hxe
 subst xe
 -- what is appended
 have hnew : ∃ m new, elems h i.size w = some (m, new) /\ new.length = m * i.size /\ (ex.v ρ).bx.length = m /\ bQ i.size (PV P h H.S deep et) (ex.v ρ).bx new := by
  split at hex
  ·cases hex; cases gx
   exact ⟨0, [], rfl, by simp, rfl, rfl⟩
  ·rcases kp R gx hex with ⟨q1, rfl⟩ | ⟨l0, sz, q1, q2, _, _, cs, q3, q4⟩
   ·exact ⟨0, [], rfl, by simp, by rw [q1]; rfl, by rw [q1]; rfl⟩
   ·rw [hsz] at q2; cases q2
    exact ⟨l0.length, cs, q3, q4.length, by rw [q1]; rfl, by rw [q1]; exact q4⟩
 obtain ⟨m, new, n1, n2, n3, n4⟩ := hnew
 have none1 : new.all AV.one = true := by rw [List.all_eq_true]; exact n4.all fun _ _ q => q.cell
 have app : ∀ (r : AV × ah), da h i.size i.bytes u m new = some r -> gR P h st xt u w = some r := by
  intro r hr
  simp only [gR, hst, hi, z1, hxt]
  rw [hguard, cond_true]
  simp only [appended, n1]
  exact hr
 have lexp : ex.len'.i ρ = m := by rw [len'_i]; show ((ex.v ρ).bx.length : Int) = m; rw [n3]
 split at e2
 ·-- onto nil
  cases e2
  cases gs
  rw [cA, le'_b, ao, lexp] at hl
  have hm : m <= sI i.bytes := Int.ofNat_le.1 hl
  have hv : (E.app' .nil ex).v ρ = if m = 0 then .nil else .list (ex.v ρ).bx := by
   rw [app'_v]
   simp only [E.v, V.app]
   cases hq : (ex.v ρ).bx with
   | nil => rw [hq] at n3; simp at n3; simp [<- n3]
   | cons a b => rw [hq] at n3; simp at n3; rw [if_neg (by omega)]; rfl
  cases m with
  | zero =>
   obtain ⟨x1, R1⟩ := R.alias (o := .arr et (E.app' .nil ex) sh.next) (l := .nil) (acs := []) (fun a q => by cases q) (fun x => .iA (by rw [hv]; rfl) (by simp [Hid.new]) hsz hpos)
   exact ⟨_, _, _, app _ rfl, x1, R1, .cu (by simp [Hid.new]), fun a ha => .inl ha⟩
  | succ m =>
   rw [if_neg (by omega)] at hv
   obtain ⟨b1, b2⟩ := oq hbp (by omega) hm
   obtain ⟨x1, R1⟩ := R.new (o := .arr et (E.app' .nil ex) sh.next) (ob := .cells new) (l := .nN h.next (m + 1) i.size) (acs := new) rfl
    (fun x => .arr (a := h.next) (len := m + 1) (sz := i.size) hv (by simp [Hid.new]) ⟨hsz, hpos, n3.symm, by rw [ah.aQ]; simp, n4.imp fun _ _ q => q.mono x.kept⟩ (by simp [Hid.new]))
   refine ⟨.slice h.next 0 (m + 1) i.size, _, _, app _ ?_, x1, R1, .view (by simp [Hid.new]), fun a ha => .inl ha⟩
   simp only [da]
   have : (Nat.ble ((2 * (m + 1) + 1024) * i.bytes) 140737488355328 && Nat.ble (m + 1) 2305843009213693952 && new.all AV.one) = true := by
    simp only [Bool.and_eq_true, Nat.ble_eq]; exact ⟨⟨b1, b2⟩, none1⟩
   rw [this, cond_true]
 ·-- onto a block of our own
  rename_i b
  split at e2
  case h_2 => cases e2
  rename_i et' e0 ib hg
  obtain ⟨het, e3⟩ := aj e2
  clear e2
  have het := aq het
  subst et'
  cases e3
  rw [cA, le'_b, ao, add'_i, lexp] at hl
  have ho := R.bj _ _ hg
  have hblt := R.b4 _ _ hg
  cases ho with
  | iA q1 q2 _ _ =>
   cases gs with
   | view q => rw [q2] at q; cases q
   | cu q =>
   have le0 : e0.len'.i ρ = 0 := by rw [len'_i, q1]; rfl
   rw [le0] at hl
   have hm : m <= sI i.bytes := Int.ofNat_le.1 (by simpa [E.i] using hl)
   have hv : (E.app' e0 ex).v ρ = if m = 0 then .nil else .list (ex.v ρ).bx := by
    rw [app'_v, q1]
    simp only [V.app]
    cases hq : (ex.v ρ).bx with
    | nil => rw [hq] at n3; simp at n3; simp [<- n3]
    | cons a b => rw [hq] at n3; simp at n3; rw [if_neg (by omega)]; rfl
   have RK := R.Df b
   cases m with
   | zero =>
    obtain ⟨x1, R1⟩ := RK.alias (o := .arr et (E.app' e0 ex) sh.next) (l := .nil) (acs := []) (fun a q => by cases q) (fun x => .iA (by rw [hv]; rfl) (by simp [Hid.new, ae.kill]) hsz hpos)
    exact ⟨_, _, _, app _ rfl, x1, R1, .cu (by simp [Hid.new, ae.kill]), fun a ha => .inl ha⟩
   | succ m =>
    rw [if_neg (by omega)] at hv
    obtain ⟨b1, b2⟩ := oq hbp (by omega) hm
    obtain ⟨x1, R1⟩ := RK.new (o := .arr et (E.app' e0 ex) sh.next) (ob := .cells new) (l := .nN h.next (m + 1) i.size) (acs := new) rfl
     (fun x => .arr (a := h.next) (len := m + 1) (sz := i.size) hv (by simp [Hid.new, ae.kill]) ⟨hsz, hpos, n3.symm, by rw [ah.aQ]; simp, n4.imp fun _ _ q => q.mono x.kept⟩ (by simp [Hid.new, ae.kill]))
    refine ⟨.slice h.next 0 (m + 1) i.size, _, _, app _ ?_, x1, R1, .view (by simp [Hid.new, ae.kill]), fun a ha => .inl ha⟩
    simp only [da]
    have : (Nat.ble ((2 * (m + 1) + 1024) * i.bytes) 140737488355328 && Nat.ble (m + 1) 2305843009213693952 && new.all AV.one) = true := by
     simp only [Bool.and_eq_true, Nat.ble_eq]; exact ⟨⟨b1, b2⟩, none1⟩
    rw [this, cond_true]
  | arr q1 q2 q3 q4 =>
   rename_i a len sz l0 acs
   cases gs with
   | cu q => rw [q2] at q; cases q
   | view q =>
   rw [q2] at q; cases q
   have hz2 := q3.size
   rw [hsz] at hz2; cases hz2
   have hlen := q3.len
   subst hlen
   have le0 : e0.len'.i ρ = l0.length := by rw [len'_i, q1]; rfl
   rw [le0] at hl
   have hm : l0.length + m <= sI i.bytes := Int.ofNat_le.1 (by simpa [E.i] using hl)
   obtain ⟨hS, hbase⟩ := R.mL _ _ _ _ hg rfl q2 rfl
   have RK := R.Df b
   have gview : SD P h H ρ (.view b) (.slice a 0 l0.length i.size) := .view q2
   have helems : elems h i.size (.slice a 0 l0.length i.size) = some (l0.length, acs) := by
    rcases kp R gview (show kq sh (.view b) = some (et, e0) by simp [kq, hg]) with ⟨_, w⟩ | ⟨l1, sz, w1, w2, _, _, cs, w3, w4⟩
    ·cases w
    ·rw [q1] at w1; cases w1
     rw [hsz] at w2; cases w2
     rw [w3]
     have : cs = acs := by
      have tk : takeN (l0.length * i.size) (acs.drop 0) = some cs := by
       simp only [elems, q3.get, beq_self', cond_true, Option.map_eq_some_iff] at w3
       obtain ⟨c', c2, c3⟩ := w3
       cases c3
       exact c2
      have full : ∀ (n : Nat) (xs : List AV), n = xs.length -> takeN n xs = some xs := by
       intro n xs
       induction xs generalizing n with
       | nil => intro h; subst h; rfl
       | cons x xs ih => intro h; subst h; simp [takeN, ih _ rfl]
      rw [List.drop_zero, full _ _ q3.row.length.symm] at tk
      cases tk; rfl
     rw [this]
   cases m with
   | zero =>
    have hv : (E.app' e0 ex).v ρ = .list l0 := by
     rw [app'_v, q1]
     simp only [V.app]
     have : (ex.v ρ).bx = [] := List.length_eq_zero_iff.1 n3
     rw [this]
    obtain ⟨x1, R1⟩ := RK.alias (o := .arr et (E.app' e0 ex) sh.next) (l := .nN a l0.length i.size) (acs := acs)
     (fun a' q => by
      cases q
      refine ⟨hS, hbase, R.cV _ _ _ q2 rfl, fun c o l' hc hw hn hl' => ?_, fun c o hc hw ha => ?_⟩
      ·rw [ae.bO] at hc
       split at hc
       ·cases hc
       ·rename_i hcb; exact hcb (R.inj _ _ _ _ _ _ _ hc hg hw rfl hn q2 hl' rfl)
      ·rw [ae.bO] at hc
       split at hc
       ·cases hc
       ·exact R.tr.ow _ _ _ _ _ _ hc hw ha hg rfl q2 rfl)
     (fun x => .arr (a := a) (len := l0.length) (sz := i.size) hv (by simp [Hid.new, ae.kill]) ⟨hsz, hpos, rfl, q3.get, q3.row.imp fun _ _ q => q.mono x.kept⟩ (by simp [Hid.new, ae.kill]))
    refine ⟨.slice a 0 l0.length i.size, h, _, app _ ?_, x1, R1, .view (by simp [Hid.new, ae.kill]), fun a ha => .inl ha⟩
    simp only [da, helems]
   | succ m =>
    have hv : (E.app' e0 ex).v ρ = .list (l0 ++ (ex.v ρ).bx) := by
     rw [app'_v, q1]
     simp only [V.app]
     cases hq : (ex.v ρ).bx with
     | nil => rw [hq] at n3; simp at n3
     | cons a b => rfl
    obtain ⟨b1, b2⟩ := oq hbp (by omega) hm
    obtain ⟨x0, R0⟩ := RK.D3 (a := a) hS hbase (fun c o l' hc hn hl' => by
      rw [ae.bO] at hc
      split at hc
      ·cases hc
      ·rename_i hcb
       by_cases hw : own o = true
       ·exact hcb (R.inj _ _ _ _ _ _ _ hc hg hw rfl hn q2 hl' rfl)
       ·have ho' := R.bj _ _ hc
        cases ho' with
        | ic z1 z2 z3 z4 z5 => rw [z4] at hn; cases hn; cases hl'
        | dK z1 z2 z3 z4 z5 => rw [z2] at hn; cases hn; cases hl'; exact hS z4
        | _ => exact absurd rfl hw)
     (fun c o hc hw ha => by
      rw [ae.bO] at hc
      split at hc
      ·cases hc
      ·exact R.tr.ow _ _ _ _ _ _ hc hw ha hg rfl q2 rfl)
    obtain ⟨x1, R1⟩ := R0.new (o := .arr et (E.app' e0 ex) sh.next) (ob := .cells (acs ++ new)) (l := .nN h.next (l0.length + (m + 1)) i.size) (acs := acs ++ new) rfl
     (fun x => .arr (a := h.next) (len := l0.length + (m + 1)) (sz := i.size) hv (by simp [Hid.new, ae.kill]) ⟨hsz, hpos, by simp [n3], by rw [ah.aQ]; simp [ah.kill], (q3.row.append n4).imp fun _ _ q => q.mono (x0.trans x).kept⟩ (by simp [Hid.new, ae.kill]))
    refine ⟨.slice h.next 0 (l0.length + (m + 1)) i.size, _, _, app _ ?_, x0.trans x1, R1, .view (by simp [Hid.new, ae.kill]), fun a ha => .inl ha⟩
    simp only [da, helems]
    have : (Nat.ble ((2 * (l0.length + (m + 1)) + 1024) * i.bytes) 140737488355328 && Nat.ble (l0.length + (m + 1)) 2305843009213693952 && new.all AV.one) = true := by
     simp only [Bool.and_eq_true, Nat.ble_eq]; exact ⟨⟨b1, b2⟩, none1⟩
    rw [this, cond_true]
 ·cases e2
end
end Go.Sym
namespace Go.Sym
open Go Go.a9
section
variable {P : Program} {h h' : ah} {H H' : Hid} {ρ : Env} {h0 : ah} {sh sh' : ae}
def Has (H : Hid) (o : b5) (b a : Nat) : Prop := (∃ l, H.ν b = some l /\ l.at = some a) \/ (bf o = true /\ a ∈ H.fp b)
theorem HR.eN (R : HR P h0 h H ρ sh) {b b' : Nat} {o o' : b5} {a : Nat} (e : sh.get b = some o) (e' : sh.get b' = some o') (w : own o = true) (w' : own o' = true) (g : Has H o b a) (g' : Has H o' b' a) : b = b' := by
 rcases g with ⟨l, n, l1⟩ | ⟨t, m⟩
 ·rcases g' with ⟨l', n', l1'⟩ | ⟨t', m'⟩
  ·exact R.inj _ _ _ _ _ _ _ e e' w w' n n' l1 l1'
  ·exact (R.tr.ow _ _ _ _ _ _ e' t' m' e w n l1).elim
 ·rcases g' with ⟨l', n', l1'⟩ | ⟨t', m'⟩
  ·exact (R.tr.ow _ _ _ _ _ _ e t m e' w' n' l1').elim
  ·exact R.tr.inj _ _ _ _ _ e e' t t' m m'
theorem HR.hasB (R : HR P h0 h H ρ sh) {b : Nat} {o : b5} {a : Nat} (e : sh.get b = some o) (w : own o = true) (g : Has H o b a) : ¬ H.S a /\ h0.next <= a /\ a < h.next := by
 rcases g with ⟨l, n, l1⟩ | ⟨t, m⟩
 ·obtain ⟨q1, q2⟩ := R.mL _ _ _ _ e w n l1
  exact ⟨q1, q2, R.cV _ _ _ n l1⟩
 ·exact R.tr.lt _ _ e t _ m
theorem HR.ks (R : HR P h0 h H ρ sh) {b : Nat} {o : b5} (e : sh.get b = some o) (t : bf o = true) : (H.fp b).Nodup /\ ∀ l a, H.ν b = some l -> l.at = some a -> a ∉ H.fp b :=
 ⟨R.tr.nd _ _ e t, fun l a n l1 m => R.tr.ow _ _ _ _ _ _ e t m e (bM t) n l1⟩
theorem HR.build (bj : ∀ b o, sh'.get b = some o -> db P h' H' ρ b o) (fN : ∀ a, H'.S a -> a < h'.next) (next : h0.next <= h'.next) (cJ : ∀ c, c < h0.next -> h'.get c = h0.get c) (cR : ∀ b, sh'.next <= b -> H'.ν b = none) (cV : ∀ b l a, H'.ν b = some l -> l.at = some a -> a < h'.next)
  (ka : ∀ n, sh'.iz <= n -> H'.κ n = []) (kb : ∀ b v, sh'.next <= v -> H'.κb b v = []) (none_ : ∀ c, h'.next <= c -> h'.get c = none) (b4 : ∀ b o, sh'.get b = some o -> b < sh'.next)
  (A : ∀ b b' o o' a, sh'.get b = some o -> sh'.get b' = some o' -> own o = true -> own o' = true -> Has H' o b a -> Has H' o' b' a -> b = b')
  (B : ∀ b o a, sh'.get b = some o -> own o = true -> Has H' o b a -> ¬ H'.S a /\ h0.next <= a /\ a < h'.next)
  (C : ∀ b o, sh'.get b = some o -> bf o = true -> (H'.fp b).Nodup /\ ∀ l a, H'.ν b = some l -> l.at = some a -> a ∉ H'.fp b) : HR P h0 h' H' ρ sh' := by
 refine ⟨bj, fun b b' o o' l l' a e e' w w' n n' l1 l1' => A _ _ _ _ _ e e' w w' (.inl ⟨_, n, l1⟩) (.inl ⟨_, n', l1'⟩), fun b o l a e w n l1 => ?_, fN, next, cJ, cR, cV, ka, kb, none_, b4, fun b o e t c hc => B _ _ _ e (bM t) (.inr ⟨t, hc⟩), fun b o e t => (C _ _ e t).1, fun b b' o o' c e e' t t' hc hc' => A _ _ _ _ _ e e' (bM t) (bM t') (.inr ⟨t, hc⟩) (.inr ⟨t', hc'⟩), fun b o b' o' l c e t hc e' w' n l1 => ?_⟩
 ·obtain ⟨q1, q2, _⟩ := B _ _ _ e w (.inl ⟨_, n, l1⟩)
  exact ⟨q1, q2⟩
 ·have := A _ _ _ _ _ e e' (bM t) w' (.inr ⟨t, hc⟩) (.inl ⟨_, n, l1⟩)
  subst this
  exact (C _ _ e t).2 _ _ n l1 hc
noncomputable def Hid.ky (H : Hid) (b : Nat) (F : List Nat) : Hid := { H with fp := fun c => if c = b then F else H.fp c }
theorem xB (h : ah) (H : Hid) (b : Nat) (F : List Nat) : aM h H h (H.ky b F) := ⟨fun _ _ e => e, fun _ _ _ e => e, fun _ _ _ _ e => e, fun b hb => ⟨hb, fun _ e => e⟩⟩
theorem qd (R : HR P h0 h H ρ sh) {c : Nat} {t : TypeId} {e : E} (k : kd P sh c = some (t, e)) : ∃ o sz av G, sh.get c = some o /\ own o = true /\ aA P t = some sz /\ 0 < sz /\ mj H c av /\ Cw h sz (OV P h deep t) (e.v ρ) av G /\ G.Nodup /\ (∀ a, a ∈ G -> Has H o c a) := by
 unfold kd at k
 split at k
 ·rename_i t' e' ib hg
  have ho := R.bj _ _ hg
  cases hs : bA P deep t' with
  | true => rw [hs] at k; cases k
  | false =>
   rw [hs] at k
   simp only [cond_false, Option.some.injEq, Prod.mk.injEq] at k
   obtain ⟨rfl, rfl⟩ := k
   cases ho with
   | iA q1 q2 q3 q4 => exact ⟨_, _, .aV, [], hg, rfl, q3, q4, .inl ⟨q2, rfl⟩, .inl ⟨q1, rfl, rfl⟩, List.nodup_nil, by simp⟩
   | arr q1 q2 q3 q4 =>
    rename_i a len sz l acs
    refine ⟨_, sz, .slice a 0 len sz, [a], hg, rfl, q3.size, q3.pos, .inr ⟨_, _, _, q2, rfl⟩, .inr ⟨l, a, acs, [], q1, by rw [q3.len], rfl, q3.get, q3.row.A9 fun _ _ q => q.A9 hs⟩, by simp, ?_⟩
    intro x hx
    simp at hx; subst hx
    exact .inl ⟨_, q2, rfl⟩
 ·rename_i t' e' hg
  cases k
  have ho := R.bj _ _ hg
  cases ho with
  | eH q1 q2 q3 q4 q5 => exact ⟨_, _, .aV, [], hg, rfl, q3, q4, .inl ⟨q2, rfl⟩, .inl ⟨q1, rfl, rfl⟩, List.nodup_nil, by simp⟩
  | tree q1 q2 q3 q4 =>
   rename_i a len sz l acs
   refine ⟨_, sz, .slice a 0 len sz, a :: H.fp c, hg, rfl, q3.size, q3.pos, .inr ⟨_, _, _, q2, rfl⟩, .inr ⟨l, a, acs, _, q1, by rw [q3.len], rfl, q3.get, q4⟩, ?_, ?_⟩
   ·obtain ⟨n1, n2⟩ := R.ks hg rfl
    exact List.nodup_cons.2 ⟨n2 _ _ q2 rfl, n1⟩
   ·intro x hx
    rcases List.mem_cons.1 hx with rfl | hx
    ·exact .inl ⟨_, q2, rfl⟩
    ·exact .inr ⟨rfl, hx⟩
 ·cases k
theorem mj.unique {c : Nat} {a b : AV} (g : mj H c a) (k : mj H c b) : a = b := by
 rcases g with ⟨g, rfl⟩ | ⟨x, y, z, g, rfl⟩ <;> rcases k with ⟨k, rfl⟩ | ⟨x', y', z', k, rfl⟩ <;> rw [g] at k <;> cases k <;> rfl
theorem bD {c b x : Nat} {o ox : b5} (e : ((sh.kill c).set b o).get x = some ox) : (x = b /\ ox = o) \/ (x ≠ b /\ x ≠ c /\ sh.get x = some ox) := by
 rw [ae.aP] at e
 split at e
 ·rename_i hx; cases e; exact .inl ⟨hx, rfl⟩
 ·rename_i hx
  rw [ae.bO] at e
  split at e
  ·cases e
  ·rename_i hc; exact .inr ⟨hx, hc, e⟩
theorem bS {cs : List AV} {p : Nat} {x : AV} (hp : p < cs.length) : aB cs p [x] = cs.set p x := by
 unfold aB
 rw [List.set_eq_take_append_cons_drop, if_pos hp]; simp
theorem nU {cs : List AV} {p : Nat} {x y : AV} (hx : cs[p]? = some x) : aB (aB cs p [y]) p [x] = cs := by
 have hp := (List.getElem?_eq_some_iff.1 hx).1
 rw [bS hp, bS (by simpa using hp), List.set_set]
 apply List.ext_getElem?
 intro k
 rw [List.getElem?_set]
 split
 ·rename_i hk; subst hk; rw [hx]
 ·rfl
theorem tF {cs : List AV} {p : Nat} {x y : AV} (hp : p < cs.length) : aB (aB cs p [y]) p [x] = aB cs p [x] := by
 rw [bS hp, bS (by simpa using hp), bS hp, List.set_set]
theorem lk {d : Nat} {st et : TypeId} {x : V} {c : List AV} {G : List Nat} (hu : P.underlying st = some (.slice et)) (g : OV P h (d + 1) st x c G) : ∃ av sz, c = [av] /\ aA P et = some sz /\ 0 < sz /\ Cw h sz (OV P h d et) x av G := by
 obtain ⟨_, g⟩ := g
 rw [hu] at g
 exact g
theorem nV {d : Nat} {st et : TypeId} {x : V} {av : AV} {sz : Nat} {G : List Nat} (hs : aA P st = some 1) (hu : P.underlying st = some (.slice et)) (hz : aA P et = some sz) (hp : 0 < sz) (g : Cw h sz (OV P h d et) x av G) : OV P h (d + 1) st x [av] G := by
 refine ⟨hs, ?_⟩
 rw [hu]
 exact ⟨av, sz, rfl, hz, hp, g⟩
theorem Cw.imp {sz : Nat} {R R' : V -> List AV -> List Nat -> Prop} {x : V} {av : AV} {F : List Nat} (hr : ∀ x c G, (∀ a ∈ G, a ∈ F) -> R x c G -> R' x c G) (hs : gD h h' F) (g : Cw h sz R x av F) : Cw h' sz R' x av F := by
 rcases g with e | ⟨l, a, cs, G, e1, e2, rfl, e4, e5⟩
 ·exact .inl e
 ·exact .inr ⟨l, a, cs, G, e1, e2, rfl, hs a (by simp) _ e4, e5.imp fun x c K hK => hr x c K fun b hb => List.mem_cons_of_mem _ (hK b hb)⟩
theorem za (R : HR P h0 h H ρ sh) (b : Nat) : ∃ H', aM h H h H' /\ HR P h0 h H' ρ (s8 P sh b) /\ aS h0 H H' := by
 unfold s8
 split
 case h_2 => exact ⟨H, aM.refl _ _, R, aS.refl _ _⟩
 rename_i t e i off st c hg
 split
 case h_2 => exact ⟨H, aM.refl _ _, R, aS.refl _ _⟩
 rename_i j et t' e' hj hu hw
 cases hc : (Nat.beq t' et && fL P 10 et && !Nat.beq b c) with
 | false => exact ⟨H, aM.refl _ _, R, aS.refl _ _⟩
 | true =>
  simp only [Bool.and_eq_true, Bool.not_eq_true'] at hc
  obtain ⟨⟨h1, hfin⟩, h3⟩ := hc
  have h1 := aq h1
  subst h1
  have hbc : b ≠ c := by intro q; subst q; simp at h3
  simp only [cond_true]
  obtain ⟨oc, szc, av, G, c1, c2, c3, c4, c5, c6, c7, c8⟩ := qd R hw
  have ho := R.bj _ _ hg
  cases ho with
  | jf q1 q2 q3 q4 q5 =>
   rename_i m j' a len sz l acs
   have hjj : j' = j := by have := q4.part; rw [hj] at this; cases this; rfl
   subst hjj
   obtain ⟨av', k1, k2⟩ := q4.ya
   have : av' = av := k2.unique c5
   subst this
   have hm : m < l.length := q4.lt
   obtain ⟨d, cc, r, F1, G0, F2, d1, d2, w1, w2, w3, w4, _, w6, w7⟩ := dA hj q5 (m := m) (by simpa using hm)
   have hplt := (List.getElem?_eq_some_iff.1 k1).1
   -- what is in the hole
   have hl0 : (V.list (l.set m (((V.list l).get (Int.ofNat m)).put .nil j'))).get (Int.ofNat m) = ((V.list l).get (Int.ofNat m)).put .nil j' := by
    rw [V.get_list', List.getElem?_set_self hm]; rfl
   obtain ⟨d, rfl⟩ : ∃ d', d = d' + 1 := ⟨d - 1, by omega⟩
   have hst := w4.length
   obtain ⟨av0, sz0, x1, x2, x3, x4⟩ := lk hu w4
   rw [x2] at c3; cases c3
   have hG0 : G0 = [] := by
    have : cc = [.aV] := by
     have e1 := congrArg (fun l => l[0]?) w1
     rw [x1] at e1 ⊢
     simp only [List.getElem?_drop] at e1
     rw [bS hplt] at e1
     simp [hplt] at e1
     rw [<- e1]
    rw [x1] at this
    simp at this
    subst this
    rcases x4 with ⟨_, _, q⟩ | ⟨_, _, _, _, _, q, _⟩
    ·exact q
    ·cases q
   subst hG0
   have hG : ∀ {d : Nat}, 10 <= d -> Cw h szc (OV P h d t') (e'.v ρ) av' G := fun hd => c6.imp (fun _ _ _ _ q => (OV.fin hfin q).le hd) (gD.refl _ _)
   have new := w7 (h' := h) (y := e'.v ρ) (c' := [av']) (G' := G) (gD.refl _ _) (nV (by rw [hst, x1]; rfl) hu x2 x3 (hG (by omega)))
   rw [hl0, nU k1, List.set_set] at new
   have hput2 : (((V.list l).get (Int.ofNat m)).put .nil j').put (e'.v ρ) j' = ((V.list l).get (Int.ofNat m)).put (e'.v ρ) j' := by
    rcases im hj with ⟨rfl, _, _⟩ | ⟨k, f, fields, rfl, _⟩
    ·rfl
    ·simp only [V.put, V.set, V.bx]; simp
   rw [hput2] at new
   -- the value
   have hval : ∃ l', ((cond (decide (e' = ez (e.get' i) j')) e (.set e i (dF (e.get' i) e' j'))).v ρ) = .list l' /\ l' = l.set m (((V.list l).get (Int.ofNat m)).put (e'.v ρ) j') := by
    by_cases hq : e' = ez (e.get' i) j'
    ·refine ⟨l, by simp [hq, q1], ?_⟩
     have hpv : e'.v ρ = ((V.list l).get (Int.ofNat m)).part j' := by rw [hq, pE, get'_v, q1, q4.ix]
     -- putting back what is there
     rcases im hj with ⟨rfl, _, _⟩ | ⟨k, f, fields, rfl, hus, hfk, hfo, hft⟩
     ·rw [hpv]
      simp only [V.put, V.part, V.get_list', List.getElem?_eq_getElem hm, Option.getD_some]
      simp
     ·-- a field that is there
      have hm' : m < (l.set m (((V.list l).get (Int.ofNat m)).put .nil (some k))).length := by simpa using hm
      obtain ⟨ce, re, E1, EG, E2, z1, z2, z3, z4, _⟩ := q5.focus (i := m) (x := ((V.list l).get (Int.ofNat m)).put .nil (some k)) (List.getElem?_set_self hm)
      obtain ⟨_, z4⟩ := z4
      rw [hus] at z4
      obtain ⟨xs, z5, z6⟩ := z4
      obtain ⟨xk, _, _, _, _, _, z7, _⟩ := z6.focus hfk
      have hgl : (V.list l).get (Int.ofNat m) = l[m] := by rw [V.get_list', List.getElem?_eq_getElem hm]; rfl
      rw [hgl] at z5 hpv ⊢
      have hk : k < l[m].bx.length := by
       have := (List.getElem?_eq_some_iff.1 z7).1
       simp only [V.put, V.set] at z5
       cases z5
       simpa using this
      rw [hpv]
      simp only [V.put, V.part, V.set, V.get]
      have : l[m] = .list l[m].bx := by
       simp only [V.put, V.set] at z5
       -- it has elements
       cases hlm : l[m] with
       | list _ => rfl
       | _ => rw [hlm] at hk; simp [V.bx] at hk
      simp only [Int.ofNat_eq_natCast, Int.toNat_natCast, List.getElem?_eq_getElem hk, Option.getD_some, List.set_getElem_self]
      rw [<- this]; simp
    ·refine ⟨_, ?_, rfl⟩
     have : decide (e' = ez (e.get' i) j') = false := by simp [hq]
     rw [this]
     simp only [cond_false, E.v, jR, get'_v, q1, q4.ix, V.set, V.bx, Int.ofNat_eq_natCast, Int.toNat_natCast]
   obtain ⟨l', hv1, hv2⟩ := hval
   subst hv2
   have hx := xB h H b (F1 ++ G ++ F2)
   have hfold : H.fp b = F1 ++ F2 := by rw [w3]; simp
   have hasb : ∀ {a : Nat}, Has (H.ky b (F1 ++ G ++ F2)) (.tree t (cond (decide (e' = ez (e.get' i) j')) e (.set e i (dF (e.get' i) e' j'))) none) b a -> Has H (.tree t e (some (i, off, st, c))) b a \/ Has H oc c a := by
    rintro a (⟨l, n, l1⟩ | ⟨_, m⟩)
    ·exact .inl (.inl ⟨l, n, l1⟩)
    ·simp only [Hid.ky, if_true, List.mem_append] at m
     rcases m with (m | m) | m
     ·exact .inl (.inr ⟨rfl, by rw [hfold]; simp [m]⟩)
     ·exact .inr (c8 _ m)
     ·exact .inl (.inr ⟨rfl, by rw [hfold]; simp [m]⟩)
   have haso : ∀ {x : Nat} {o : b5} {a : Nat}, x ≠ b -> Has (H.ky b (F1 ++ G ++ F2)) o x a -> Has H o x a := by
    rintro x o a hx (⟨l, n, l1⟩ | ⟨t, m⟩)
    ·exact .inl ⟨l, n, l1⟩
    ·simp only [Hid.ky, if_neg hx] at m; exact .inr ⟨t, m⟩
   refine ⟨_, hx, ?_, fun a ha => .inl ha⟩
   refine HR.build ?_ R.fN R.next R.cJ R.cR R.cV R.ka R.kb R.none_ ?_ ?_ ?_ ?_
   ·intro x o ex
    rcases bD ex with ⟨rfl, rfl⟩ | ⟨hxb, hxc, ex⟩
    ·exact .tree hv1 q2 ⟨q3.size, q3.pos, by rw [q3.len]; simp, q3.get⟩ (by simp only [Hid.ky, if_true]; exact new)
    ·exact db.mono hx (fun _ => ⟨by simp [Hid.ky, hxb], gD.refl _ _⟩) (fun _ _ _ _ _ q => q) (fun _ _ _ _ => rfl) (fun _ _ => rfl) (R.bj _ _ ex)
   ·intro x o ex
    rcases bD ex with ⟨rfl, rfl⟩ | ⟨_, _, ex⟩
    ·exact R.b4 _ _ hg
    ·exact R.b4 _ _ ex
   ·intro x y o o' a ex ey wx wy gx gy
    rcases bD ex with ⟨ex1, ex2⟩ | ⟨hxb, hxc, ex'⟩
    ·rcases bD ey with ⟨ey1, ey2⟩ | ⟨hyb, hyc, ey'⟩
     ·rw [ex1, ey1]
     ·subst ex1 ex2
      rcases hasb gx with g | g
      ·exact R.eN hg ey' rfl wy g (haso hyb gy)
      ·exact absurd (R.eN c1 ey' c2 wy g (haso hyb gy)).symm hyc
    ·rcases bD ey with ⟨ey1, ey2⟩ | ⟨hyb, hyc, ey'⟩
     ·subst ey1 ey2
      rcases hasb gy with g | g
      ·exact R.eN ex' hg wx rfl (haso hxb gx) g
      ·exact absurd (R.eN ex' c1 wx c2 (haso hxb gx) g) hxc
     ·exact R.eN ex' ey' wx wy (haso hxb gx) (haso hyb gy)
   ·intro x o a ex wx gx
    rcases bD ex with ⟨rfl, rfl⟩ | ⟨hxb, hxc, ex⟩
    ·rcases hasb gx with g | g
     ·exact R.hasB hg rfl g
     ·exact R.hasB c1 c2 g
    ·exact R.hasB ex wx (haso hxb gx)
   ·intro x o ex tx
    rcases bD ex with ⟨rfl, rfl⟩ | ⟨hxb, hxc, ex⟩
    ·obtain ⟨n1, n2⟩ := R.ks hg rfl
     rw [hfold] at n1 n2
     simp only [Hid.ky, if_true]
     have dis : ∀ a, a ∈ F1 ++ F2 -> a ∈ G -> False := fun a ha hb => hbc (R.eN hg c1 rfl c2 (.inr ⟨rfl, by rw [hfold]; exact ha⟩) (c8 a hb))
     refine ⟨?_, ?_⟩
     ·rw [List.append_assoc]
      rw [List.nodup_append] at n1 ⊢
      obtain ⟨m1, m2, m3⟩ := n1
      refine ⟨m1, List.nodup_append.2 ⟨c7, m2, fun a ha b hb q => ?_⟩, fun a ha b hb q => ?_⟩
      ·subst q; exact dis a (by simp [hb]) ha
      ·subst q
       rcases List.mem_append.1 hb with hb | hb
       ·exact dis a (by simp [ha]) hb
       ·exact m3 a ha a hb rfl
     ·intro l' a' n l1 hm
      rcases List.mem_append.1 hm with hm | hm
      ·rcases List.mem_append.1 hm with hm | hm
       ·exact n2 _ _ n l1 (by simp [hm])
       ·exact hbc (R.eN hg c1 rfl c2 (.inl ⟨_, n, l1⟩) (c8 _ hm))
      ·exact n2 _ _ n l1 (by simp [hm])
    ·have := R.ks ex tx
     simpa [Hid.ky, hxb] using this
theorem y8 (R : HR P h0 h H ρ sh) {b c : Nat} {ob oc o1 : b5} {F1 F2 G : List Nat} (hg : sh.get b = some ob) (ht : bf ob = true) (ht1 : bf o1 = true) (c1 : sh.get c = some oc) (c2 : own oc = true) (hbc : b ≠ c) (hfold : H.fp b = F1 ++ F2) (c7 : G.Nodup) (c8 : ∀ a, a ∈ G -> Has H oc c a)
  (ho : aM h H h (H.ky b (F1 ++ G ++ F2)) -> db P h (H.ky b (F1 ++ G ++ F2)) ρ b o1) : ∃ H', aM h H h H' /\ HR P h0 h H' ρ ((sh.kill c).set b o1) /\ aS h0 H H' := by
 have hx := xB h H b (F1 ++ G ++ F2)
 have hob : own ob = true := bM ht
 have hasb : ∀ {a : Nat}, Has (H.ky b (F1 ++ G ++ F2)) o1 b a -> Has H ob b a \/ Has H oc c a := by
  rintro a (⟨l, n, l1⟩ | ⟨_, m⟩)
  ·exact .inl (.inl ⟨l, n, l1⟩)
  ·simp only [Hid.ky, if_true, List.mem_append] at m
   rcases m with (m | m) | m
   ·exact .inl (.inr ⟨ht, by rw [hfold]; simp [m]⟩)
   ·exact .inr (c8 _ m)
   ·exact .inl (.inr ⟨ht, by rw [hfold]; simp [m]⟩)
 have haso : ∀ {x : Nat} {o : b5} {a : Nat}, x ≠ b -> Has (H.ky b (F1 ++ G ++ F2)) o x a -> Has H o x a := by
  rintro x o a hx (⟨l, n, l1⟩ | ⟨t, m⟩)
  ·exact .inl ⟨l, n, l1⟩
  ·simp only [Hid.ky, if_neg hx] at m; exact .inr ⟨t, m⟩
 refine ⟨_, hx, ?_, fun a ha => .inl ha⟩
 refine HR.build ?_ R.fN R.next R.cJ R.cR R.cV R.ka R.kb R.none_ ?_ ?_ ?_ ?_
 ·intro x o ex
  rcases bD ex with ⟨rfl, rfl⟩ | ⟨hxb, hxc, ex⟩
  ·exact ho hx
  ·exact db.mono hx (fun _ => ⟨by simp [Hid.ky, hxb], gD.refl _ _⟩) (fun _ _ _ _ _ q => q) (fun _ _ _ _ => rfl) (fun _ _ => rfl) (R.bj _ _ ex)
 ·intro x o ex
  rcases bD ex with ⟨rfl, rfl⟩ | ⟨_, _, ex⟩
  ·exact R.b4 _ _ hg
  ·exact R.b4 _ _ ex
 ·intro x y o o' a ex ey wx wy gx gy
  rcases bD ex with ⟨ex1, ex2⟩ | ⟨hxb, hxc, ex'⟩
  ·rcases bD ey with ⟨ey1, ey2⟩ | ⟨hyb, hyc, ey'⟩
   ·rw [ex1, ey1]
   ·subst ex1 ex2
    rcases hasb gx with g | g
    ·exact R.eN hg ey' hob wy g (haso hyb gy)
    ·exact absurd (R.eN c1 ey' c2 wy g (haso hyb gy)).symm hyc
  ·rcases bD ey with ⟨ey1, ey2⟩ | ⟨hyb, hyc, ey'⟩
   ·subst ey1 ey2
    rcases hasb gy with g | g
    ·exact R.eN ex' hg wx hob (haso hxb gx) g
    ·exact absurd (R.eN ex' c1 wx c2 (haso hxb gx) g) hxc
   ·exact R.eN ex' ey' wx wy (haso hxb gx) (haso hyb gy)
 ·intro x o a ex wx gx
  rcases bD ex with ⟨rfl, rfl⟩ | ⟨hxb, hxc, ex⟩
  ·rcases hasb gx with g | g
   ·exact R.hasB hg hob g
   ·exact R.hasB c1 c2 g
  ·exact R.hasB ex wx (haso hxb gx)
 ·intro x o ex tx
  rcases bD ex with ⟨rfl, rfl⟩ | ⟨hxb, hxc, ex⟩
  ·obtain ⟨n1, n2⟩ := R.ks hg ht
   rw [hfold] at n1 n2
   simp only [Hid.ky, if_true]
   have dis : ∀ a, a ∈ F1 ++ F2 -> a ∈ G -> False := fun a ha hb => hbc (R.eN hg c1 hob c2 (.inr ⟨ht, by rw [hfold]; exact ha⟩) (c8 a hb))
   refine ⟨?_, ?_⟩
   ·rw [List.append_assoc]
    rw [List.nodup_append] at n1 ⊢
    obtain ⟨m1, m2, m3⟩ := n1
    refine ⟨m1, List.nodup_append.2 ⟨c7, m2, fun a ha b hb q => ?_⟩, fun a ha b hb q => ?_⟩
    ·subst q; exact dis a (by simp [hb]) ha
    ·subst q
     rcases List.mem_append.1 hb with hb | hb
     ·exact dis a (by simp [ha]) hb
     ·exact m3 a ha a hb rfl
   ·intro l' a' n l1 hm
    rcases List.mem_append.1 hm with hm | hm
    ·rcases List.mem_append.1 hm with hm | hm
     ·exact n2 _ _ n l1 (by simp [hm])
     ·exact hbc (R.eN hg c1 hob c2 (.inl ⟨_, n, l1⟩) (c8 _ hm))
    ·exact n2 _ _ n l1 (by simp [hm])
  ·have := R.ks ex tx
   simpa [Hid.ky, hxb] using this
theorem y9 (R : HR P h0 h H ρ sh) (b : Nat) : ∃ H', aM h H h H' /\ HR P h0 h H' ρ (s7 P sh b) /\ aS h0 H H' := by
 unfold s7
 split
 case h_2 => exact ⟨H, aM.refl _ _, R, aS.refl _ _⟩
 rename_i t et e i c i2 c2 hg
 split
 case h_2 => exact ⟨H, aM.refl _ _, R, aS.refl _ _⟩
 rename_i t' e' hw
 cases hc : (Nat.beq t' et && fL P 10 et && !Nat.beq b c2) with
 | false => exact ⟨H, aM.refl _ _, R, aS.refl _ _⟩
 | true =>
  simp only [Bool.and_eq_true, Bool.not_eq_true'] at hc
  obtain ⟨⟨h1, hfin⟩, h3⟩ := hc
  have h1 := aq h1
  subst h1
  have hbc : b ≠ c2 := by intro q; subst q; simp at h3
  simp only [cond_true]
  obtain ⟨oc, szc, av, G, c1, c2', c3, c4, c5, c6, c7, c8⟩ := qd R hw
  have ho := R.bj _ _ hg
  cases ho with
  | dh q1 q2 q3 q4 q5 q6 q7 q8 =>
   rename_i m m2 a len l acs
   obtain ⟨p1, p2, p3, p4, p5⟩ := q5
   obtain ⟨av', k1, k2⟩ := q7
   have : av' = av := k2.unique c5
   subst this
   have hplt := (List.getElem?_eq_some_iff.1 k1).1
   have hst1 := q3.size
   have hj : partAt P t 0 t = some none := by simp [partAt]
   obtain ⟨d, cc, r, F1, G0, F2, d1, d2, w1, w2, w3, w4, _, w6, w7⟩ := dA hj q8 (m := m2) (by simpa using p5)
   have hl0 : (V.list ((l.set m .nil).set m2 .nil)).get (Int.ofNat m2) = .nil := by
    rw [V.get_list', List.getElem?_set_self (by simpa using p5)]; rfl
   rw [hl0] at w4 w7
   obtain ⟨d, rfl⟩ : ∃ d', d = d' + 1 := ⟨d - 1, by omega⟩
   obtain ⟨av0, sz0, x1, x2, x3, x4⟩ := lk q4 w4
   rw [x2] at c3; cases c3
   have hG0 : G0 = [] := by
    rcases x4 with ⟨_, _, q⟩ | ⟨_, _, _, _, q, _⟩
    ·exact q
    ·cases q
   subst hG0
   have hG : ∀ {d : Nat}, 10 <= d -> Cw h szc (OV P h d t') (e'.v ρ) av' G := fun hd => c6.imp (fun _ _ _ _ q => (OV.fin hfin q).le hd) (gD.refl _ _)
   have new := w7 (h' := h) (y := e'.v ρ) (c' := [av']) (G' := G) (gD.refl _ _) (nV hst1 q4 x2 x3 (hG (by omega)))
   simp only [V.put, Nat.mul_one, Nat.add_zero] at new
   rw [List.set_set, bS (by simpa using hplt), List.set_set] at new
   have hal : acs.length = l.length := by
    have := q8.length; simpa using this
   have hacs : (acs.set m .aV).set m2 av' = acs.set m .aV := by
    apply List.ext_getElem?
    intro k
    rw [List.getElem?_set]
    split
    ·rename_i hk; subst hk
     rw [List.getElem?_set_ne (by omega), k1]
     simp [hplt]
    ·rfl
   rw [hacs] at new
   have hval : ∃ l', ((cond (decide (e' = e.get' i2)) e (.set e i2 e')).v ρ) = .list l' /\ l' = l.set m2 (e'.v ρ) := by
    by_cases hq : e' = e.get' i2
    ·refine ⟨l, by simp [hq, q1], ?_⟩
     have hpv : e'.v ρ = (V.list l).get (Int.ofNat m2) := by rw [hq, get'_v, q1, p2]
     rw [hpv, V.get_list', List.getElem?_eq_getElem p5]
     simp
    ·refine ⟨_, ?_, rfl⟩
     have : decide (e' = e.get' i2) = false := by simp [hq]
     rw [this]
     simp only [cond_false, E.v, q1, p2, V.set, V.bx, Int.ofNat_eq_natCast, Int.toNat_natCast]
   obtain ⟨l', hv1, hv2⟩ := hval
   subst hv2
   obtain ⟨aw, k3, k4⟩ := q6
   refine y8 R (F1 := F1) (F2 := F2) (G := G) hg rfl rfl c1 c2' hbc (by rw [w3]; simp) c7 c8 fun hx => ?_
   refine .jf (m := m) (j := none) (sz := 1) hv1 q2 ⟨q3.size, q3.pos, by rw [q3.len]; simp, q3.get⟩ ⟨p1, by simpa using p4, hj, aw, by simpa using k3, k4.mono hx⟩ ?_
   simp only [Hid.ky, if_true, V.put, Nat.mul_one, Nat.add_zero]
   rw [bS (List.getElem?_eq_some_iff.1 k3).1]
   rw [List.set_comm _ _ (by omega : m ≠ m2)] at new
   exact new
theorem dc : ∀ (n : Nat) {sh : ae} {H : Hid} (R : HR P h0 h H ρ sh) (b : Nat), ∃ H', aM h H h H' /\ HR P h0 h H' ρ (settle P n sh b) /\ aS h0 H H'
 | 0, sh, H, R, b => ⟨H, aM.refl _ _, R, aS.refl _ _⟩
 | n + 1, sh, H, R, b => by
  unfold settle
  split
  ·rename_i c hg
   obtain ⟨H1, x1, R1, s1⟩ := dc n R c
   obtain ⟨H2, x2, R2, s2⟩ := za R1 b
   exact ⟨H2, x1.trans x2, R2, s1.trans s2⟩
  ·rename_i c2 hg
   obtain ⟨H1, x1, R1, s1⟩ := dc n R c2
   obtain ⟨H2, x2, R2, s2⟩ := y9 R1 b
   obtain ⟨H3, x3, R3, s3⟩ := dc n R2 b
   exact ⟨H3, (x1.trans x2).trans x3, R3, (s1.trans s2).trans s3⟩
  ·exact ⟨H, aM.refl _ _, R, aS.refl _ _⟩
theorem gV : ∀ (l : List Nat) {sh : ae} {H : Hid} (R : HR P h0 h H ρ sh), ∃ H', aM h H h H' /\ HR P h0 h H' ρ (mr P sh l) /\ aS h0 H H'
 | [], sh, H, R => ⟨H, aM.refl _ _, R, aS.refl _ _⟩
 | b :: l, sh, H, R => by
  obtain ⟨H1, x1, R1, s1⟩ := dc 6 R b
  obtain ⟨H2, x2, R2, s2⟩ := gV l R1
  exact ⟨H2, x1.trans x2, R2, s1.trans s2⟩
theorem jz (R : HR P h0 h H ρ sh) : ∃ H', aM h H h H' /\ HR P h0 h H' ρ (fY P sh) /\ aS h0 H H' := gV _ R
end
end Go.Sym
namespace Go.Sym
open Go Go.a9
section
variable {P : Program} {h h' : ah} {H H' : Hid} {ρ : Env} {h0 : ah} {sh sh' : ae}
noncomputable def Hid.opened (H : Hid) (b n : Nat) (l : Loc) (acs : List AV) (F G : List Nat) : Hid :=
 { H with ν := fun c => if c = n then some l else H.ν c, κb := fun c v => if c = n /\ v = n then acs else H.κb c v, fp := fun c => if c = b then F else if c = n then G else H.fp c }
theorem dB {b x : Nat} {o ox o1 : b5} (e : ((sh.new o1).set b o).get x = some ox) : (x = b /\ ox = o) \/ (x ≠ b /\ x = sh.next /\ ox = o1) \/ (x ≠ b /\ x ≠ sh.next /\ sh.get x = some ox) := by
 rw [ae.aP] at e
 split at e
 ·rename_i hx; cases e; exact .inl ⟨hx, rfl⟩
 ·rename_i hx
  rw [ae.aQ] at e
  split at e
  ·rename_i hn; cases e; exact .inr (.inl ⟨hx, hn, rfl⟩)
  ·rename_i hn; exact .inr (.inr ⟨hx, hn, e⟩)
theorem my (R : HR P h0 h H ρ sh) {b : Nat} {o1 o2 : b5} {l : Loc} {acs : List AV} {F G : List Nat} {ob : b5} (hg : sh.get b = some ob) (ht : bf ob = true)
  (ht1 : bf o1 = true) (ho2 : own o2 = true) (hF : ∀ a, a ∈ F -> a ∈ H.fp b) (hF1 : F.Nodup) (hG : ∀ a, (∃ x, l.at = some x /\ x = a) \/ (bf o2 = true /\ a ∈ G) -> a ∈ H.fp b /\ a ∉ F) (hG1 : bf o2 = true -> G.Nodup /\ ∀ a, l.at = some a -> a ∉ G)
  (h1 : ∀ H', aM h H h H' -> H'.fp b = F -> H'.ν b = H.ν b -> H'.ν sh.next = some l -> db P h H' ρ b o1)
  (h2 : ∀ H', aM h H h H' -> H'.ν sh.next = some l -> H'.κb sh.next sh.next = acs -> H'.fp sh.next = G -> H'.S = H.S -> db P h H' ρ sh.next o2) :
  ∃ H', aM h H h H' /\ HR P h0 h H' ρ ((sh.new o2).set b o1) /\ aS h0 H H' := by
 have hb := R.b4 _ _ hg
 have hbn : sh.next ≠ b := by omega
 have hx : aM h H h (H.opened b sh.next l acs F G) := ⟨fun c l' e => by
   simp only [Hid.opened]
   rw [if_neg (by have := R.vu e; omega)]; exact e, fun _ _ _ e => e, fun c v j av e => by
   simp only [Hid.opened]
   split
   ·rename_i hc; obtain ⟨rfl, rfl⟩ := hc; rw [R.kb _ _ (Nat.le_refl _)] at e; simp at e
   ·exact e, fun b hb => ⟨hb, fun _ e => e⟩⟩
 have hasb : ∀ {a : Nat}, Has (H.opened b sh.next l acs F G) o1 b a -> (∃ l', H.ν b = some l' /\ l'.at = some a) \/ a ∈ F := by
  rintro a (⟨l', n, l1⟩ | ⟨_, m⟩)
  ·simp only [Hid.opened, if_neg (Ne.symm hbn)] at n; exact .inl ⟨l', n, l1⟩
  ·simp only [Hid.opened, if_true] at m; exact .inr m
 have hasb' : ∀ {a : Nat}, Has (H.opened b sh.next l acs F G) o1 b a -> Has H ob b a := fun g => (hasb g).elim .inl fun q => .inr ⟨ht, hF _ q⟩
 have hasn : ∀ {a : Nat}, Has (H.opened b sh.next l acs F G) o2 sh.next a -> a ∈ H.fp b /\ a ∉ F := by
  rintro a (⟨l', n, l1⟩ | ⟨t, m⟩)
  ·simp only [Hid.opened, if_true] at n; cases n; exact hG a (.inl ⟨a, l1, rfl⟩)
  ·simp only [Hid.opened, if_neg hbn, if_true] at m; exact hG a (.inr ⟨t, m⟩)
 have haso : ∀ {x : Nat} {o : b5} {a : Nat}, x ≠ b -> x ≠ sh.next -> Has (H.opened b sh.next l acs F G) o x a -> Has H o x a := by
  rintro x o a hx hx' (⟨l', n, l1⟩ | ⟨t, m⟩)
  ·simp only [Hid.opened, if_neg hx'] at n; exact .inl ⟨l', n, l1⟩
  ·simp only [Hid.opened, if_neg hx, if_neg hx'] at m; exact .inr ⟨t, m⟩
 obtain ⟨nd, nl⟩ := R.ks hg ht
 have hbn' : ∀ {a : Nat}, Has (H.opened b sh.next l acs F G) o1 b a -> Has (H.opened b sh.next l acs F G) o2 sh.next a -> False := by
  intro a g g'
  obtain ⟨q1, q2⟩ := hasn g'
  rcases hasb g with ⟨l', n, l1⟩ | q
  ·exact nl _ _ n l1 q1
  ·exact q2 q
 refine ⟨_, hx, ?_, fun a ha => .inl ha⟩
 have hnx : ((sh.new o2).set b o1).next = sh.next + 1 := rfl
 refine HR.build ?_ R.fN R.next R.cJ ?_ ?_ R.ka ?_ R.none_ ?_ ?_ ?_ ?_
 ·intro x o ex
  rcases dB ex with ⟨rfl, rfl⟩ | ⟨_, rfl, rfl⟩ | ⟨hxb, hxn, ex⟩
  ·exact h1 _ hx (by simp [Hid.opened]) (by simp only [Hid.opened]; rw [if_neg (Ne.symm hbn)]) (by simp [Hid.opened])
  ·exact h2 _ hx (by simp [Hid.opened]) (by simp [Hid.opened]) (by simp only [Hid.opened]; rw [if_neg hbn]; simp) rfl
  ·exact db.mono hx (fun _ => ⟨by simp only [Hid.opened]; rw [if_neg hxb, if_neg hxn], gD.refl _ _⟩) (fun _ _ _ _ _ q => q) (fun _ _ _ _ => by simp only [Hid.opened]; rw [if_neg (fun q => hxn q.1)]) (fun _ _ => rfl) (R.bj _ _ ex)
 ·intro c hc
  rw [hnx] at hc
  simp only [Hid.opened]; rw [if_neg (by omega)]; exact R.cR _ (by omega)
 ·intro c l' a n l1
  simp only [Hid.opened] at n
  split at n
  ·cases n; exact (R.tr.lt _ _ hg ht _ (hG a (.inl ⟨a, l1, rfl⟩)).1).2.2
  ·exact R.cV _ _ _ n l1
 ·intro c v hv
  rw [hnx] at hv
  simp only [Hid.opened]; rw [if_neg (by omega)]; exact R.kb _ _ (by omega)
 ·intro x o ex
  rw [hnx]
  rcases dB ex with ⟨rfl, rfl⟩ | ⟨_, rfl, rfl⟩ | ⟨hxb, hxn, ex⟩
  ·omega
  ·omega
  ·have := R.b4 _ _ ex; omega
 ·intro x y o o' a ex ey wx wy gx gy
  rcases dB ex with ⟨ex1, ex2⟩ | ⟨_, ex1, ex2⟩ | ⟨hxb, hxn, ex'⟩
  ·subst ex1 ex2
   rcases dB ey with ⟨ey1, ey2⟩ | ⟨_, ey1, ey2⟩ | ⟨hyb, hyn, ey'⟩
   ·exact ey1.symm
   ·subst ey1 ey2; exact (hbn' gx gy).elim
   ·exact R.eN hg ey' (bM ht) wy (hasb' gx) (haso hyb hyn gy)
  ·subst ex1 ex2
   rcases dB ey with ⟨ey1, ey2⟩ | ⟨_, ey1, ey2⟩ | ⟨hyb, hyn, ey'⟩
   ·subst ey1 ey2; exact (hbn' gy gx).elim
   ·exact ey1.symm
   ·exact (hyb (R.eN hg ey' (bM ht) wy (.inr ⟨ht, (hasn gx).1⟩) (haso hyb hyn gy)).symm).elim
  ·rcases dB ey with ⟨ey1, ey2⟩ | ⟨_, ey1, ey2⟩ | ⟨hyb, hyn, ey'⟩
   ·subst ey1 ey2; exact R.eN ex' hg wx (bM ht) (haso hxb hxn gx) (hasb' gy)
   ·subst ey1 ey2; exact (hxb (R.eN ex' hg wx (bM ht) (haso hxb hxn gx) (.inr ⟨ht, (hasn gy).1⟩))).elim
   ·exact R.eN ex' ey' wx wy (haso hxb hxn gx) (haso hyb hyn gy)
 ·intro x o a ex wx gx
  rcases dB ex with ⟨ex1, ex2⟩ | ⟨_, ex1, ex2⟩ | ⟨hxb, hxn, ex'⟩
  ·subst ex1 ex2; exact R.hasB hg (bM ht) (hasb' gx)
  ·subst ex1 ex2; exact R.tr.lt _ _ hg ht _ (hasn gx).1
  ·exact R.hasB ex' wx (haso hxb hxn gx)
 ·intro x o ex tx
  rcases dB ex with ⟨ex1, ex2⟩ | ⟨_, ex1, ex2⟩ | ⟨hxb, hxn, ex'⟩
  ·subst ex1 ex2
   simp only [Hid.opened, if_true]
   refine ⟨hF1, fun l' a n l1 q => ?_⟩
   rw [if_neg (Ne.symm hbn)] at n
   exact nl _ _ n l1 (hF _ q)
  ·subst ex1 ex2
   simp only [Hid.opened, if_neg hbn, if_true]
   refine ⟨(hG1 tx).1, fun l' a n l1 => ?_⟩
   cases n
   exact (hG1 tx).2 _ l1
  ·have := R.ks ex' tx
   simp only [Hid.opened, if_neg hxb, if_neg hxn]
   exact this
theorem uB (R : HR P h0 h H ρ sh) (b : Nat) (i : E) (off : Nat) (st : TypeId) (hl : bo ρ (sE P sh b i off st).2) : ∃ H', aM h H h H' /\ HR P h0 h H' ρ (sE P sh b i off st).1 /\ aS h0 H H' := by
 have stay : ∃ H', aM h H h H' /\ HR P h0 h H' ρ sh /\ aS h0 H H' := ⟨H, aM.refl _ _, R, aS.refl _ _⟩
 unfold sE at hl ⊢
 split
 case h_2 => exact stay
 rename_i t e hg
 rw [hg] at hl
 simp only at hl
 split
 case h_2 => exact stay
 rename_i j et hj hu
 rw [hj, hu] at hl
 simp only at hl ⊢
 have hi := ew.1 hl
 rw [len'_i] at hi
 have ho := R.bj _ _ hg
 cases ho with
 | eH q1 _ _ _ _ => rw [q1] at hi; simp [V.len, V.bx] at hi; omega
 | tree q1 q2 q3 q4 =>
  rename_i a len sz l acs
  rw [q1] at hi
  obtain ⟨m, hm1, hm2, hm3⟩ := dO hi.1 hi.2
  have hm : m < l.length := hm2
  obtain ⟨d, cc, r, F1, G, F2, d1, d2, w1, w2, w3, w4, _, w6, w7⟩ := dA hj q4 hm
  obtain ⟨d, rfl⟩ : ∃ d', d = d' + 1 := ⟨d - 1, by omega⟩
  have hst := w4.length
  obtain ⟨av, szi, x1, x2, x3, x4⟩ := lk hu w4
  subst x1
  have hst1 : aA P st = some 1 := by rw [hst]; rfl
  have hxv : (ez (e.get' i) j).v ρ = ((V.list l).get (Int.ofNat m)).part j := by rw [pE, get'_v, q1, hm1]
  have hav : acs[m * sz + off]? = some av := by
   have := congrArg (fun l => l[0]?) w1
   simpa [List.getElem?_drop] using this
  have new := w7 (h' := h) (y := .nil) (c' := [.aV]) (G' := []) (gD.refl _ _) (nV hst1 hu x2 x3 (.inl ⟨rfl, rfl, rfl⟩))
  have hnd := (R.ks hg rfl).1
  rw [w3] at hnd
  have hF : ∀ a, a ∈ F1 ++ [] ++ F2 -> a ∈ H.fp b := by
   intro a ha
   rw [w3]; simp at ha ⊢; rcases ha with h | h <;> simp [h]
  have hF1 : (F1 ++ [] ++ F2).Nodup := by
   simp only [List.append_nil]
   rw [List.append_assoc, List.nodup_append] at hnd
   obtain ⟨n1, n2, n3⟩ := hnd
   rw [List.nodup_append] at n2
   exact List.nodup_append.2 ⟨n1, n2.2.1, fun a ha b hb => n3 a ha b (by simp [hb])⟩
  have hGd : ∀ a, a ∈ G -> a ∈ H.fp b /\ a ∉ F1 ++ [] ++ F2 := by
   intro a ha
   refine ⟨by rw [w3]; simp [ha], fun hq => ?_⟩
   rw [List.append_assoc, List.nodup_append] at hnd
   obtain ⟨n1, n2, n3⟩ := hnd
   rw [List.nodup_append] at n2
   rcases List.mem_append.1 hq with hq | hq
   ·exact n3 a (by simpa using hq) a (by simp [ha]) rfl
   ·exact n2.2.2 a ha a hq rfl
  have hGn : G.Nodup := by
   rw [List.append_assoc, List.nodup_append] at hnd
   exact (List.nodup_append.1 hnd.2.1).1
  rcases x4 with ⟨v1, rfl, rfl⟩ | ⟨li, ai, ci, Gi, v1, rfl, rfl, v4, v5⟩
  ·-- nil
   refine my R (o1 := .tree t e (some (i, off, st, sh.next))) (o2 := bh P et (ez (e.get' i) j) sh.next) (l := .nil) (acs := []) (F := F1 ++ [] ++ F2) (G := []) hg rfl rfl (by unfold bh; cases bA P deep et <;> rfl) hF hF1 ?_ (fun _ => ⟨List.nodup_nil, by simp⟩) ?_ ?_
   ·rintro a (⟨x, hx, _⟩ | ⟨_, hx⟩)
    ·cases hx
    ·simp at hx
   ·intro H' x f n n2
    exact .jf q1 (by rw [n]; exact q2) q3 ⟨hm1, hm, hj, .aV, hav, .inl ⟨n2, rfl⟩⟩ (by rw [f]; exact new)
   ·intro H' x n k f s
    unfold bh
    cases bA P deep et with
    | true => exact .eH (by rw [hxv, v1]) n x2 x3 f
    | false => exact .iA (by rw [hxv, v1]) n x2 x3
  ·have v5' : di szi (OV P h deep et) li ci Gi := v5.imp fun _ _ _ _ q => q.le (by show d <= 12; omega)
   refine my R (o1 := .tree t e (some (i, off, st, sh.next))) (o2 := bh P et (ez (e.get' i) j) sh.next) (l := .nN ai li.length szi) (acs := ci) (F := F1 ++ [] ++ F2) (G := Gi) hg rfl rfl (by unfold bh; cases bA P deep et <;> rfl) hF hF1 ?_ ?_ ?_ ?_
   ·rintro a (⟨x, hx, rfl⟩ | ⟨_, hx⟩)
    ·simp only [Loc.at, Option.some.injEq] at hx; subst hx; exact hGd _ (by simp)
    ·exact hGd _ (by simp [hx])
   ·intro _
    obtain ⟨n1, n2⟩ := List.nodup_cons.1 hGn
    exact ⟨n2, fun a q => by simp only [Loc.at, Option.some.injEq] at q; subst q; exact n1⟩
   ·intro H' x f n n2
    exact .jf q1 (by rw [n]; exact q2) q3 ⟨hm1, hm, hj, _, hav, .inr ⟨_, _, _, n2, rfl⟩⟩ (by rw [f]; exact new)
   ·intro H' x n k f s
    unfold bh
    cases hsl : bA P deep et with
    | true => exact .tree (by rw [hxv, v1]) n ⟨x2, x3, rfl, v4⟩ (by rw [f]; exact v5')
    | false => exact .arr (by rw [hxv, v1]) n ⟨x2, x3, rfl, v4, v5'.zD fun _ _ K _ q => q.pv (by rw [q.kL hsl]; simp)⟩ k
theorem Ax (R : HR P h0 h H ρ sh) (b : Nat) (i : E) (t : TypeId) (hl : bo ρ (uA P sh b i t).2) : ∃ H', aM h H h H' /\ HR P h0 h H' ρ (uA P sh b i t).1 /\ aS h0 H H' := by
 have stay : ∃ H', aM h H h H' /\ HR P h0 h H' ρ sh /\ aS h0 H H' := ⟨H, aM.refl _ _, R, aS.refl _ _⟩
 unfold uA at hl ⊢
 split
 case h_2 => exact stay
 rename_i t' e i' off' st c hg
 rw [hg] at hl
 simp only at hl
 split
 case h_2 => exact stay
 rename_i et hu
 rw [hu] at hl
 simp only at hl ⊢
 cases hcc : (Nat.beq t' t && Nat.beq st t && Nat.beq off' 0) with
 | false => exact stay
 | true =>
 rw [hcc] at hl
 simp only [cond_true] at hl ⊢
 simp only [Bool.and_eq_true] at hcc
 obtain ⟨⟨hc1, hc2⟩, hc3⟩ := hcc
 have hc1 := aq hc1
 have hc2 := aq hc2
 have hc3 := aq hc3
 subst hc1; subst hc2; subst hc3
 have hne := hl _ (List.mem_cons_self ..)
 have hl : bo ρ (mC i e.len') := fun c hc => hl c (List.mem_cons_of_mem _ hc)
 have hi := ew.1 hl
 rw [len'_i] at hi
 have hne : i.i ρ ≠ i'.i ρ := by simpa [E.b, AS] using hne
 have ho := R.bj _ _ hg
 cases ho with
 | jf q1 q2 q3 q4 q5 =>
  rename_i m0 j0 a len sz l acs
  have hj : partAt P st 0 st = some none := by simp [partAt]
  have hj0 : j0 = none := by have := q4.part; rw [hj] at this; cases this; rfl
  subst hj0
  rw [q1] at hi
  obtain ⟨m, hm1, hm2, hm3⟩ := dO hi.1 hi.2
  have hm : m < l.length := hm2
  have hmm : m0 ≠ m := by intro q; subst q; exact hne (by rw [hm1, q4.ix])
  obtain ⟨av0, k1, k2⟩ := q4.ya
  have hplt0 := (List.getElem?_eq_some_iff.1 k1).1
  obtain ⟨d, cc, r, F1, G, F2, d1, d2, w1, w2, w3, w4, _, w6, w7⟩ := dA hj q5 (m := m) (by simpa using hm)
  obtain ⟨d, rfl⟩ : ∃ d', d = d' + 1 := ⟨d - 1, by omega⟩
  have hst := w4.length
  obtain ⟨av, szi, x1, x2, x3, x4⟩ := lk hu w4
  subst x1
  have hst1 : aA P st = some 1 := by rw [hst]; rfl
  have hsz : sz = 1 := by have := q3.size; rw [hst1] at this; cases this; rfl
  subst hsz
  have hxv : (e.get' i).v ρ = (V.list l).get (Int.ofNat m) := by rw [get'_v, q1, hm1]
  simp only [V.put, V.part, Nat.mul_one, Nat.add_zero] at w1 w4 w7 k1 hplt0 q5 x4
  rw [bS hplt0] at w1 w7 q5
  have hgm : (V.list (l.set m0 .nil)).get (Int.ofNat m) = (V.list l).get (Int.ofNat m) := by
   rw [V.get_list', V.get_list', List.getElem?_set_ne hmm]
  rw [hgm] at w4 x4
  have hav : acs[m]? = some av := by
   have := congrArg (fun l => l[0]?) w1
   simp [List.getElem?_drop] at this
   rw [List.getElem?_set_ne hmm] at this
   exact this
  have hplt := (List.getElem?_eq_some_iff.1 hav).1
  have new := w7 (h' := h) (y := .nil) (c' := [.aV]) (G' := []) (gD.refl _ _) (nV hst1 hu x2 x3 (.inl ⟨rfl, rfl, rfl⟩))
  rw [bS (by simpa using hplt)] at new
  have hnd := (R.ks hg rfl).1
  rw [w3] at hnd
  have hF : ∀ a, a ∈ F1 ++ [] ++ F2 -> a ∈ H.fp b := by
   intro a ha
   rw [w3]; simp at ha ⊢; rcases ha with h | h <;> simp [h]
  have hF1 : (F1 ++ [] ++ F2).Nodup := by
   simp only [List.append_nil]
   rw [List.append_assoc, List.nodup_append] at hnd
   obtain ⟨n1, n2, n3⟩ := hnd
   rw [List.nodup_append] at n2
   exact List.nodup_append.2 ⟨n1, n2.2.1, fun a ha b hb => n3 a ha b (by simp [hb])⟩
  have hGd : ∀ a, a ∈ G -> a ∈ H.fp b /\ a ∉ F1 ++ [] ++ F2 := by
   intro a ha
   refine ⟨by rw [w3]; simp [ha], fun hq => ?_⟩
   rw [List.append_assoc, List.nodup_append] at hnd
   obtain ⟨n1, n2, n3⟩ := hnd
   rw [List.nodup_append] at n2
   rcases List.mem_append.1 hq with hq | hq
   ·exact n3 a (by simpa using hq) a (by simp [ha]) rfl
   ·exact n2.2.2 a ha a hq rfl
  have hGn : G.Nodup := by
   rw [List.append_assoc, List.nodup_append] at hnd
   exact (List.nodup_append.1 hnd.2.1).1
  rcases x4 with ⟨v1, rfl, rfl⟩ | ⟨li, ai, ci, Gi, v1, rfl, rfl, v4, v5⟩
  ·refine my R (o1 := .dh st et e i' c i sh.next) (o2 := bh P et (e.get' i) sh.next) (l := .nil) (acs := []) (F := F1 ++ [] ++ F2) (G := []) hg rfl rfl (by unfold bh; cases bA P deep et <;> rfl) hF hF1 ?_ (fun _ => ⟨List.nodup_nil, by simp⟩) ?_ ?_
   ·rintro a (⟨x, hx, _⟩ | ⟨_, hx⟩)
    ·cases hx
    ·simp at hx
   ·intro H' x f n n2
    exact .dh q1 (by rw [n]; exact q2) q3 hu ⟨q4.ix, hm1, hmm, q4.lt, hm⟩ ⟨av0, k1, k2.mono x⟩ ⟨.aV, hav, .inl ⟨n2, rfl⟩⟩ (by rw [f]; exact new)
   ·intro H' x n k f s
    unfold bh
    cases bA P deep et with
    | true => exact .eH (by rw [hxv, v1]) n x2 x3 f
    | false => exact .iA (by rw [hxv, v1]) n x2 x3
  ·have v5' : di szi (OV P h deep et) li ci Gi := v5.imp fun _ _ _ _ q => q.le (by show d <= 12; omega)
   refine my R (o1 := .dh st et e i' c i sh.next) (o2 := bh P et (e.get' i) sh.next) (l := .nN ai li.length szi) (acs := ci) (F := F1 ++ [] ++ F2) (G := Gi) hg rfl rfl (by unfold bh; cases bA P deep et <;> rfl) hF hF1 ?_ ?_ ?_ ?_
   ·rintro a (⟨x, hx, rfl⟩ | ⟨_, hx⟩)
    ·simp only [Loc.at, Option.some.injEq] at hx; subst hx; exact hGd _ (by simp)
    ·exact hGd _ (by simp [hx])
   ·intro _
    obtain ⟨n1, n2⟩ := List.nodup_cons.1 hGn
    exact ⟨n2, fun a q => by simp only [Loc.at, Option.some.injEq] at q; subst q; exact n1⟩
   ·intro H' x f n n2
    exact .dh q1 (by rw [n]; exact q2) q3 hu ⟨q4.ix, hm1, hmm, q4.lt, hm⟩ ⟨av0, k1, k2.mono x⟩ ⟨_, hav, .inr ⟨_, _, _, n2, rfl⟩⟩ (by rw [f]; exact new)
   ·intro H' x n k f s
    unfold bh
    cases hsl : bA P deep et with
    | true => exact .tree (by rw [hxv, v1]) n ⟨x2, x3, rfl, v4⟩ (by rw [f]; exact v5')
    | false => exact .arr (by rw [hxv, v1]) n ⟨x2, x3, rfl, v4, v5'.zD fun _ _ K _ q => q.pv (by rw [q.kL hsl]; simp)⟩ k
end
end Go.Sym
