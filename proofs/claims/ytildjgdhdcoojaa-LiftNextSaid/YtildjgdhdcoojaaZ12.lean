/- Texts of the claim: Num7, Num8, Lift4, Lift5, Lift6, Lift7, Lift9, Lift10, Lift11, Lift12, Lift13. -/
import Derived.Test.YtildjgdhdcoojaaZ11
namespace X
open Go Go.Abs Go.Sym
set_option linter.unusedVariables false
set_option linter.unusedSimpArgs false

theorem toI_int' (z : Int) : (V.int z).toI = z := rfl
theorem evL : (∀ {α β : Type} {f : α → β} {a : α} {l : List α}, List.map f (a :: l) = f a :: List.map f l) ∧ (∀ {α β : Type} {f : α → β}, List.map f [] = []) ∧ (∀ {α : Type} {a : α} {k l : List α}, (a :: k) ++ l = a :: (k ++ l)) ∧ (∀ {α : Type} (l : List α), [] ++ l = l) ∧ (∀ {α : Type} (l : List α), l ++ [] = l) ∧ (∀ {α : Type} {x d : α} {xs : List α}, (x :: xs).getD 0 d = x) ∧ (∀ {α : Type} {x d : α} {xs : List α} {n : Nat}, (x :: xs).getD (n + 1) d = xs.getD n d) ∧ (∀ z : Int, (V.int z).toI = z) ∧ (∀ b : Bool, (V.bool b).toB = b) ∧ (∀ {a b : Int}, ltB a b = true ↔ a < b) ∧ (∀ {a b : Int}, leB a b = true ↔ a ≤ b) ∧ (∀ {a b : Int}, eqB a b = true ↔ a = b) ∧ (∀ {a b : Int}, eqB a b = false ↔ ¬ a = b) ∧ (∀ {a b : Int}, ltB a b = false ↔ b ≤ a) ∧ (∀ {a b : Int}, leB a b = false ↔ b < a) ∧ (∀ b : Bool, ((!b) = true) = (b = false)) ∧ (∀ b : Bool, ((!b) = false) = (b = true)) ∧ (∀ b : Bool, (!!b) = b) ∧ (∀ a b : Bool, ((a && b) = true) = (a = true ∧ b = true)) ∧ (∀ p : Prop, (p ∧ True) = p) ∧ (∀ p : Prop, (True ∧ p) = p) :=
  ⟨by simp, by simp, by simp, by simp, by simp, by simp, by simp, by simp [V.toI], by simp [V.toB], ltB_iff, leB_iff, eqB_iff, eqB_not, ltB_not, leB_not, by simp, by simp, by simp, by simp, by simp, by simp⟩
/-- conditions, worked out -/

def qn (n d : Nat) : V := .list [.int n, .int d]
def can (a b : Nat) : V := qn (a / a.gcd b) (b / a.gcd b)
end X
namespace X
open Go Go.Abs Go.Sym
set_option linter.unusedVariables false
set_option linter.unusedSimpArgs false

theorem of_can {a b : Nat} (ha : a ≤ big) (hb : b ≤ big) (b0 : 0 < b) : Fn prog ref01_Of.f [.int a, .int b] (can a b) := by
  unfold big at ha hb
  have := Of_spec (n := a) (d := b) (by omega) (by omega) (by omega) (by omega) (by omega)
  unfold ofQ at this
  simp only [Int.natAbs_natCast] at this
  rw [if_pos ⟨by have := Nat.div_le_self a (a.gcd b); unfold big; omega, by have := Nat.div_le_self b (a.gcd b); unfold big; omega⟩] at this
  have hn : negQ a b = false := by
    have h1 : decide ((a : Int) < 0) = false := by simp
    have h2 : decide ((b : Int) < 0) = false := by simp
    unfold negQ; rw [h1, h2]; rfl
  rw [hn] at this
  exact this
end X
namespace X
open Go Go.Abs Go.Sym
set_option linter.unusedVariables false
set_option linter.unusedSimpArgs false

def Qs (r : V) (l : List V) : Prop := r.els = l
theorem shared_spec {a : V} {l : List Nat} (ha : Ints a l) (hl : l.length ≤ 1000000000) (hs : l.sum ≤ big) : ∃ r, Fn prog lift_shared.f [a] r ∧ (if l.sum = 0 then r = .nil else r.els = l.map (fun x => can x l.sum) ∧ (0 < l.length → ∃ k, r = .list k)) := by
  have la := ha.len
  have hbig : big = 4611686018427387903 := rfl
  -- the second loop
  have second : l.sum ≠ 0 → ∀ (t i : Nat) (i' w : Int) (out : V), t + i = l.length → i' = i → out.els = (l.take i).map (fun x => can x l.sum) → (0 < i → ∃ k, out = .list k) → ∃ r, (r.els = l.map (fun x => can x l.sum) ∧ (0 < l.length → ∃ k, r = .list k)) ∧ Comes lift_shared.K lift_shared.f lift_shared.s2 ⟨[((l.sum : Nat) : Int), w, i'], [], [a, out]⟩ r := by
    intro h0 t
    induction t with
    | zero =>
      intro i i' w out ht hi hout hk
      have : i = l.length := by omega
      subst this hi
      rw [List.take_length] at hout
      refine ⟨out, ⟨hout, hk⟩, Comes.last progOk lift_shared.p5 [] ?_ ?_⟩
      · simp only [EvOk, E.b, E.i, E.v, Env.ext, evL]; omega
      · simp only [EvOk, E.b, E.i, E.v, Env.ext, evL]
    | succ t ih =>
      intro i i' w out ht hi hout hk
      subst hi
      obtain ⟨d, hd⟩ : ∃ e, l[i]? = some e := ⟨_, List.getElem?_eq_getElem (by omega)⟩
      have gd := ha.get hd
      have dl : d ≤ l.sum := le_sum (List.mem_of_getElem? hd)
      have mk := Make_spec (n := d) (d := l.sum) (by omega) (by omega) hs
      have lo : out.len = i := by
        unfold V.len; rw [hout]; simp; omega
      obtain ⟨r, r1, r2⟩ := ih (i + 1) ((i : Int) + 1) w (out.snoc (can d l.sum)) (by omega) (by omega) (by
        rw [List.take_add_one, hd]
        simp [V.snoc, show ∀ l, (V.list l).els = l from fun _ => rfl, hout]) (fun _ => ⟨_, rfl⟩)
      refine ⟨r, r1, Comes.step progOk lift_shared.p4 [.list [can d l.sum, .int 0]] ?_ r2⟩
      simp only [EvOk, E.b, E.i, E.v, Env.ext, evL]
      rw [gd, lo]
      refine ⟨by omega, by omega, mk, by omega, by omega⟩
  have first : ∀ (t i : Nat) (i' s : Int), t + i = l.length → i' = i → s = ((l.take i).sum : Nat) → ∃ r, (if l.sum = 0 then r = .nil else r.els = l.map (fun x => can x l.sum) ∧ (0 < l.length → ∃ k, r = .list k)) ∧ Comes lift_shared.K lift_shared.f lift_shared.s1 ⟨[s, i'], [], [a]⟩ r := by
    intro t
    induction t with
    | zero =>
      intro i i' s ht hi hss
      have : i = l.length := by omega
      subst this hi hss
      rw [List.take_length]
      by_cases h0 : l.sum = 0
      · refine ⟨.nil, by rw [if_pos h0], Comes.last progOk lift_shared.p2 [] ?_ ?_⟩
        · simp only [EvOk, E.b, E.i, E.v, Env.ext, evL]; omega
        · simp only [EvOk, E.b, E.i, E.v, Env.ext, evL]
      · obtain ⟨r, r1, r2⟩ := second h0 l.length 0 0 (l.length : Int) .nil (by omega) rfl (by simp [V.els]) (by omega)
        refine ⟨r, by rw [if_neg h0]; exact r1, Comes.step progOk lift_shared.p3 [] ?_ r2⟩
        simp only [EvOk, E.b, E.i, E.v, Env.ext, evL]; omega
    | succ t ih =>
      intro i i' s ht hi hss
      subst hi hss
      obtain ⟨d, hd⟩ : ∃ e, l[i]? = some e := ⟨_, List.getElem?_eq_getElem (by omega)⟩
      have gd := ha.get hd
      have h1 := sum_take l i d hd
      have h2 := take_sum_le l (i + 1)
      obtain ⟨r, r1, r2⟩ := ih (i + 1) ((i : Int) + 1) (((l.take i).sum : Nat) + (a.get (i : Int)).toI) (by omega) (by omega) (by rw [gd]; omega)
      refine ⟨r, r1, Comes.step progOk lift_shared.p1 [] ?_ r2⟩
      simp only [EvOk, E.b, E.i, E.v, Env.ext, evL]
      rw [gd]
      omega
  obtain ⟨r, r1, r2⟩ := first l.length 0 0 0 (by omega) rfl rfl
  exact ⟨r, Fn.of (C := lift_shared.K) lift_shared.b (Comes.step progOk lift_shared.p0 [] trivial r2), r1⟩

theorem wt_le {R : V} {G n o k : Nat} {rows : List (List Nat)} (M : LMod R G n o k rows) (c : Int) {e m : Nat} (h : e + m ≤ n) (j : Nat) : wt G n o rows c e m j ≤ 252 * 20 ^ 10 * 20 := by
  unfold wt
  split
  · rename_i hj
    have hG := M.g2
    have hn := M.n2
    have ho := M.o1
    have s1 := shw_le M c j
    have b1 := bin_le m (by omega) (j - e) (by omega)
    have x1 : o ^ j ≤ 20 ^ j := Nat.pow_le_pow_left (by omega) _
    have x2 : (G - o) ^ (n - j) ≤ 20 ^ (n - j) := Nat.pow_le_pow_left (by omega) _
    have x3 : o ^ j * (G - o) ^ (n - j) ≤ 20 ^ 10 := by
      refine Nat.le_trans (Nat.mul_le_mul x1 x2) ?_
      rw [← Nat.pow_add]
      exact Nat.pow_le_pow_right (by omega) (by omega)
    refine Nat.mul_le_mul ?_ s1
    rw [Nat.mul_assoc]; exact Nat.mul_le_mul b1 x3
  · omega
theorem sum_map_le (l : List Nat) (f : Nat → Nat) (b : Nat) (h : ∀ x, f x ≤ b) : (l.map f).sum ≤ l.length * b := by
  induction l with
  | nil => simp
  | cons a l ih =>
    have := h a
    simp only [List.map_cons, List.sum_cons, List.length_cons, Nat.add_mul, Nat.one_mul]
    omega
theorem wts_sum_le {R : V} {G n o k : Nat} {rows : List (List Nat)} (M : LMod R G n o k rows) (c : Int) {e m : Nat} (h : e + m ≤ n) : (wts G n o rows c e m).sum ≤ 11 * (252 * 20 ^ 10 * 20) := by
  have h1 := sum_map_le (List.range (n + 1)) (wt G n o rows c e m) (252 * 20 ^ 10 * 20) (wt_le M c h)
  have h2 : (List.range (n + 1)).length * (252 * 20 ^ 10 * 20) ≤ 11 * (252 * 20 ^ 10 * 20) := Nat.mul_le_mul_right _ (by have := M.n2; simp; omega)
  exact Nat.le_trans h1 h2
theorem wts_len (G n o : Nat) (rows : List (List Nat)) (c : Int) (e m : Nat) : (wts G n o rows c e m).length = n + 1 := by simp [wts]

end X
namespace X
open Go Go.Abs Go.Sym
set_option linter.unusedVariables false
set_option linter.unusedSimpArgs false

theorem Next_spec {R : V} {G n o k : Nat} {rows : List (List Nat)} (M : LMod R G n o k rows) {z e m : Nat} {c : Int} (h1 : z + e + m = n) (h2 : -1 ≤ c) (h3 : c < k) :
    Fn prog lift_Next.f [lv G n o R, .int z, .int e, .int c] (if m = 0 then .list [qn 0 0, .int 4] else if (wts G n o rows c e m).sum = 0 then .list [qn 0 0, .int 7] else .list [can (wts G n o rows c (e + 1) (m - 1)).sum (wts G n o rows c e m).sum, .int 0]) := by
  have hc := count_spec M (z := z) (e := e) (c := c) (by omega) h2 h3
  have l1 : ((lv G n o R).get 1).toI = n := rfl
  by_cases hm : m = 0
  · rw [if_pos hm]
    refine Fn.of (C := lift_Next.K) lift_Next.b (Comes.last progOk lift_Next.p1 [.list [cv (lv G n o R) z e c, .int 0]] ?_ rfl)
    simp only [EvOk, E.b, E.i, E.v, Env.ext, evL]
    simp only [l1]
    exact ⟨hc, rfl, by have := M.n2; omega, by omega⟩
  · rw [if_neg hm]
    obtain ⟨w, w1, w2⟩ := weights_spec M h1 h3
    obtain ⟨w', w3, w4⟩ := weights_spec M (z := z) (e := e + 1) (m := m - 1) (c := c) (by omega) h3
    have hsum := wts_sum_le M c (e := e) (m := m) (by omega)
    have hsum' := wts_sum_le M c (e := e + 1) (m := m - 1) (by omega)
    have hb : 11 * (252 * 20 ^ 10 * 20) ≤ big := by decide
    have hbig : big = 4611686018427387903 := rfl
    have hl := wts_len G n o rows c e m
    have hl' := wts_len G n o rows c (e + 1) (m - 1)
    have lw := w1.len
    have lw' := w3.len
    have hn := M.n2
    generalize wts G n o rows c e m = W at *
    generalize wts G n o rows c (e + 1) (m - 1) = W' at *
    generalize 11 * (252 * 20 ^ 10 * 20) = BB at *
    -- the second sum
    have second : W.sum ≠ 0 → ∀ (t i : Nat) (i' s y : Int), t + i = W'.length → i' = i → s = ((W'.take i).sum : Nat) → Comes lift_Next.K lift_Next.f lift_Next.s2 ⟨[((W.sum : Nat) : Int), y, s, i'], [], [lv G n o R, .int z, .int e, .int c, .list [cv (lv G n o R) z e c, .int 0], w, w']⟩ (.list [can W'.sum W.sum, .int 0]) := by
      intro h0 t
      induction t with
      | zero =>
        intro i i' s y ht hi hs
        have : i = W'.length := by omega
        subst this hi hs
        rw [List.take_length]
        have mk := Make_spec (n := W'.sum) (d := W.sum) (by omega) (by omega) (by omega)
        refine Comes.last progOk lift_Next.p7 [.list [can W'.sum W.sum, .int 0]] ?_ rfl
        simp only [EvOk, E.b, E.i, E.v, Env.ext, evL]
        exact ⟨by omega, mk⟩
      | succ t ih =>
        intro i i' s y ht hi hs
        subst hi hs
        obtain ⟨d, hd⟩ : ∃ e, W'[i]? = some e := ⟨_, List.getElem?_eq_getElem (by omega)⟩
        have gd := w3.get hd
        have s1 := sum_take W' i d hd
        have s2 := take_sum_le W' (i + 1)
        refine Comes.step progOk lift_Next.p6 [] ?_ (ih (i + 1) ((i : Int) + 1) (((W'.take i).sum : Nat) + (w'.get (i : Int)).toI) y (by omega) (by omega) (by rw [gd]; omega))
        simp only [EvOk, E.b, E.i, E.v, Env.ext, evL]
        rw [gd]
        omega
    have first : ∀ (t i : Nat) (i' s : Int) (v5 : V), t + i = W.length → i' = i → s = ((W.take i).sum : Nat) → Comes lift_Next.K lift_Next.f lift_Next.s1 ⟨[s, i'], [], [lv G n o R, .int z, .int e, .int c, .list [cv (lv G n o R) z e c, .int 0], w]⟩ (if W.sum = 0 then .list [qn 0 0, .int 7] else .list [can W'.sum W.sum, .int 0]) := by
      intro t
      induction t with
      | zero =>
        intro i i' s v5 ht hi hs
        have : i = W.length := by omega
        subst this hi hs
        rw [List.take_length]
        by_cases h0 : W.sum = 0
        · rw [if_pos h0]
          refine Comes.last progOk lift_Next.p4 [] ?_ rfl
          simp only [EvOk, E.b, E.i, E.v, Env.ext, evL]; omega
        · rw [if_neg h0]
          refine Comes.step progOk lift_Next.p5 [w'] ?_ (second h0 W'.length 0 0 0 _ (by omega) rfl rfl)
          simp only [EvOk, E.b, E.i, E.v, Env.ext, evL]
          refine ⟨by omega, by omega, ?_, ?_⟩
          · show -9223372036854775808 ≤ (e : Int) + 1 ∧ (e : Int) + 1 ≤ 9223372036854775807
            omega
          · exact w4
      | succ t ih =>
        intro i i' s v5 ht hi hs
        subst hi hs
        obtain ⟨d, hd⟩ : ∃ e, W[i]? = some e := ⟨_, List.getElem?_eq_getElem (by omega)⟩
        have gd := w1.get hd
        have s1 := sum_take W i d hd
        have s2 := take_sum_le W (i + 1)
        refine Comes.step progOk lift_Next.p3 [] ?_ (ih (i + 1) ((i : Int) + 1) (((W.take i).sum : Nat) + (w.get (i : Int)).toI) v5 (by omega) (by omega) (by rw [gd]; omega))
        simp only [EvOk, E.b, E.i, E.v, Env.ext, evL]
        rw [gd]
        omega
    refine Fn.of (C := lift_Next.K) lift_Next.b (Comes.step progOk lift_Next.p2 [.list [cv (lv G n o R) z e c, .int 0], w] ?_ (first W.length 0 0 0 w (by omega) rfl rfl))
    simp only [EvOk, E.b, E.i, E.v, Env.ext, evL]
    simp only [l1]
    exact ⟨hc, rfl, by omega, by omega, w2⟩

theorem wrap_u64 (x : Int) : 0 ≤ IntKind.wrap .u64 x ∧ IntKind.wrap .u64 x < 18446744073709551616 := by
  simp [IntKind.wrap, IntKind.signed, IntKind.bits]
  omega
theorem KnownOf_spec {R : V} {G n o k : Nat} {rows : List (List Nat)} (M : LMod R G n o k rows) (a b d : Int) :
    ∃ (z e : Nat) (c : Int), z + e ≤ n ∧ -1 ≤ c ∧ c < k ∧ Fn prog KnownOf.f [.list [.int a, .int b, .int d], lv G n o R] (.list [.int z, .int e, .int c]) := by
  have l1 : ((lv G n o R).get 1).toI = n := rfl
  have l3 : (lv G n o R).get 3 = R := rfl
  have hR : R.len = (n + 1 : Int) := by simp [V.len, M.rlen]
  obtain ⟨r0, hr0⟩ : ∃ r, rows[0]? = some r := ⟨_, List.getElem?_eq_getElem (by have := M.len; omega)⟩
  have row0 := M.row 0 r0 hr0
  have l0 := row0.1.len
  have l0' : (R.get 0).len = k := by rw [row0.2.1] at l0; exact l0
  have g0 : ((V.list [.int a, .int b, .int d]).get 0).toI = a := rfl
  have g1 : ((V.list [.int a, .int b, .int d]).get 1).toI = b := rfl
  have g2 : ((V.list [.int a, .int b, .int d]).get 2).toI = d := rfl
  have hn := M.n2
  have hk := M.k2
  have a1 := wrap_u64 a
  have b1 := wrap_u64 b
  have d1 := wrap_u64 d
  generalize ha : IntKind.wrap .u64 a = A at *
  generalize hb : IntKind.wrap .u64 b = B at *
  generalize hd : IntKind.wrap .u64 d = D at *
  have tm : ∀ (x y : Int), 0 ≤ x → 0 < y → 0 ≤ x.tmod y ∧ x.tmod y < y := fun x y h1 h2 => ⟨Int.tmod_nonneg _ h1, Int.tmod_lt_of_pos _ h2⟩
  obtain ⟨p1, p2⟩ := tm A ((n : Int) + 1) a1.1 (by omega)
  obtain ⟨z, hz⟩ : ∃ z : Nat, A.tmod ((n : Int) + 1) = z := ⟨(A.tmod ((n : Int) + 1)).toNat, by omega⟩
  obtain ⟨p3, p4⟩ := tm B ((n : Int) - A.tmod ((n : Int) + 1) + 1) b1.1 (by omega)
  obtain ⟨e, he⟩ : ∃ z : Nat, B.tmod ((n : Int) - A.tmod ((n : Int) + 1) + 1) = z := ⟨(B.tmod ((n : Int) - A.tmod ((n : Int) + 1) + 1)).toNat, by omega⟩
  obtain ⟨p5, p6⟩ := tm D ((k : Int) + 1) d1.1 (by omega)
  refine ⟨z, e, D.tmod ((k : Int) + 1) - 1, by omega, by omega, by omega, Fn.of (C := KnownOf.K) KnownOf.b (Comes.last progOk KnownOf.p0 [] ?_ ?_)⟩
  · simp only [EvOk, E.b, E.i, E.v, Env.ext, evL]
    simp only [l1, l3, l0', g0, g1, g2, ha, hb, hd, hR]
    generalize A.tmod ((n : Int) + 1) = Z at *
    generalize B.tmod ((n : Int) - Z + 1) = Q at *
    generalize D.tmod ((k : Int) + 1) = C at *
    omega
  · simp only [E.i, E.v, Env.ext, List.append_nil, List.getD_cons_zero, List.getD_cons_succ, l1, l3, l0', g0, g1, g2, ha, hb, hd, hz, he]
    rw [← hz, he]
    rfl
end X
namespace X
open Go Go.Abs Go.Sym
set_option linter.unusedVariables false
set_option linter.unusedSimpArgs false

theorem Split_spec {a : V} {l : List Nat} (ha : Ints a l) (hl : ∀ x ∈ l, x ≤ 255) {n G : Nat} (n1 : 1 ≤ n) (n2 : n ≤ 1000) (hG : G ≤ 1000) : ∃ r L, Ints r L ∧ L.length = n ∧ L.sum = G ∧ Fn prog Split.f [.int n, .int G, a] r := by
  have la := ha.len
  have loop : ∀ (t i left : Nat) (i' left' : Int) (out : V) (L : List Nat), t + i = n → i' = i → left' = left → Ints out L → L.length = i → L.sum + left = G → (t = 0 → left = 0) → ∃ r, (∃ L, Ints r L ∧ L.length = n ∧ L.sum = G) ∧ Comes Split.K Split.f Split.s1 ⟨[left', i'], [], [.int n, .int G, a, out]⟩ r := by
    intro t
    induction t with
    | zero =>
      intro i left i' left' out L ht hi hle hout hL hs h0
      subst hi hle
      refine ⟨out, ⟨L, hout, by omega, by have := h0 rfl; omega⟩, Comes.last progOk Split.p4 [] ?_ ?_⟩
      · simp only [EvOk, E.b, E.i, E.v, Env.ext, evL]; omega
      · simp only [EvOk, E.b, E.i, E.v, Env.ext, evL]
    | succ t ih =>
      intro i left i' left' out L ht hi hle hout hL hs h0
      subst hi hle
      have lo := hout.len
      by_cases h1 : i < n - 1
      · by_cases h2 : i < l.length
        · obtain ⟨d, hd⟩ : ∃ e, l[i]? = some e := ⟨_, List.getElem?_eq_getElem h2⟩
          have gd := ha.get hd
          have hd255 := hl d (List.mem_of_getElem? hd)
          have hm : ((d : Int)).tmod ((left : Int) + 1) = ((d % (left + 1) : Nat) : Int) := by rw [Int.tmod_eq_emod_of_nonneg (by omega)]; rfl
          have hlt : d % (left + 1) < left + 1 := Nat.mod_lt _ (by omega)
          obtain ⟨r, r1, r2⟩ := ih (i + 1) (left - d % (left + 1)) ((i : Int) + 1) ((left : Int) - ((a.get (i : Int)).toI).tmod ((left : Int) + 1)) (out.snoc (.int (((a.get (i : Int)).toI).tmod ((left : Int) + 1)))) (L ++ [d % (left + 1)]) (by omega) (by omega) (by rw [gd, hm]; omega) (by rw [gd, hm]; exact hout.snoc _) (by simp [hL]) (by simp; omega) (by omega)
          refine ⟨r, r1, Comes.step progOk Split.p1 [] ?_ r2⟩
          simp only [EvOk, E.b, E.i, E.v, Env.ext, evL]
          rw [gd, hm]
          omega
        · obtain ⟨r, r1, r2⟩ := ih (i + 1) left ((i : Int) + 1) ((left : Int) - 0) (out.snoc (.int 0)) (L ++ [0]) (by omega) (by omega) (by omega) (hout.snoc 0) (by simp [hL]) (by simp; omega) (by omega)
          refine ⟨r, r1, Comes.step progOk Split.p2 [] ?_ r2⟩
          simp only [EvOk, E.b, E.i, E.v, Env.ext, evL]
          omega
      · obtain ⟨r, r1, r2⟩ := ih (i + 1) 0 ((i : Int) + 1) ((left : Int) - left) (out.snoc (.int left)) (L ++ [left]) (by omega) (by omega) (by omega) (hout.snoc _) (by simp [hL]) (by simp; omega) (by omega)
        refine ⟨r, r1, Comes.step progOk Split.p3 [] ?_ r2⟩
        simp only [EvOk, E.b, E.i, E.v, Env.ext, evL]
        omega
  obtain ⟨r, ⟨L, h1, h2, h3⟩, r2⟩ := loop n 0 G 0 G .nil [] (by omega) rfl rfl ints_nil rfl (by simp) (by omega)
  exact ⟨r, L, h1, h2, h3, Fn.of (C := Split.K) Split.b (Comes.step progOk Split.p0 [] trivial r2)⟩

theorem snoc_get_lt {R x : V} {j : Nat} (h : j < R.els.length) : (R.snoc x).get (j : Int) = R.get (j : Int) := by
  simp [V.snoc, V.get, show ∀ l, (V.list l).els = l from fun _ => rfl, List.getElem?_append_left h]
theorem snoc_get_eq {R x : V} : (R.snoc x).get (R.els.length : Int) = x := by
  simp [V.snoc, V.get, show ∀ l, (V.list l).els = l from fun _ => rfl]
theorem snoc_els {R x : V} : (R.snoc x).els.length = R.els.length + 1 := by
  simp [V.snoc, show ∀ l, (V.list l).els = l from fun _ => rfl]

theorem DraftLift_spec {g c o w : Nat} {L : V} {l : List Nat} (hg : g ≤ 255) (hc : c ≤ 255) (ho : o ≤ 255) (hw : w ≤ 255) (hL : Ints L l) (hl : ∀ x ∈ l, x ≤ 255) (hll : l.length ≤ 9223372036854775807) :
    ∃ R n' rows, LMod R (1 + g % 20) (1 + c % 10) (o % (1 + g % 20 + 1)) (2 + w % 3) rows ∧ n' = 1 + c % 10 ∧ Fn prog DraftLift.f [.list [.int g, .int c, .int o, .int w, L]] (lv (1 + g % 20) n' (o % (1 + g % 20 + 1)) R) := by
  have e0 : ((V.list [.int g, .int c, .int o, .int w, L]).get 0).toI = g := rfl
  have e1 : ((V.list [.int g, .int c, .int o, .int w, L]).get 1).toI = c := rfl
  have e2 : ((V.list [.int g, .int c, .int o, .int w, L]).get 2).toI = o := rfl
  have e3 : ((V.list [.int g, .int c, .int o, .int w, L]).get 3).toI = w := rfl
  have e4 : (V.list [.int g, .int c, .int o, .int w, L]).get 4 = L := rfl
  have tn : ∀ (x : Nat) (y : Nat), ((x : Int)).tmod (y : Int) = ((x % y : Nat) : Int) := by
    intro x y; rw [Int.tmod_eq_emod_of_nonneg (by omega)]; rfl
  have m0 : ((g : Int)).tmod 20 = ((g % 20 : Nat) : Int) := tn g 20
  have m1 : ((c : Int)).tmod 10 = ((c % 10 : Nat) : Int) := tn c 10
  have m3 : ((w : Int)).tmod 3 = ((w % 3 : Nat) : Int) := tn w 3
  have m2 : ((o : Int)).tmod (1 + ((g % 20 : Nat) : Int) + 1) = ((o % (1 + g % 20 + 1) : Nat) : Int) := by
    rw [← tn]; congr 1
  have lL := hL.len
  generalize hD : V.list [.int g, .int c, .int o, .int w, L] = D at *
  have h20 : g % 20 < 20 := Nat.mod_lt _ (by omega)
  have h10 : c % 10 < 10 := Nat.mod_lt _ (by omega)
  have h3 : w % 3 < 3 := Nat.mod_lt _ (by omega)
  generalize hG : g % 20 = G at *
  generalize hn : c % 10 = n at *
  generalize hk : w % 3 = k at *
  have ho1 : o % (1 + G + 1) < 1 + G + 1 := Nat.mod_lt _ (by omega)
  generalize hO : o % (1 + G + 1) = O at *
  -- rows so far
  let Inv := fun (R : V) (rows : List (List Nat)) (j : Nat) => R.els.length = j ∧ rows.length = j ∧ ∀ (i : Nat) (r : List Nat), rows[i]? = some r → Ints (R.get (i : Int)) r ∧ r.length = 2 + k ∧ r.sum = 1 + G
  have inner : ∀ (j : Nat) (R : V), j ≤ 1 + n → R.els.length = j → (∀ (x : V) (r : List Nat), Ints x r → r.length = 2 + k → r.sum = 1 + G → ∃ q, (∃ R' rows, LMod R' (1 + G) (1 + n) O (2 + k) rows ∧ q = lv (1 + G) (1 + n) O R') ∧ Comes DraftLift.K DraftLift.f DraftLift.s1 ⟨[(j : Int) + 1], [], [D, R.snoc x]⟩ q) →
      ∀ (t i : Nat) (i' : Int) (some_ : V) (s : List Nat), t + i = 4 → i' = i → Ints some_ s → s.length ≤ i → (∀ x ∈ s, x ≤ 255) → ∃ q, (∃ R' rows, LMod R' (1 + G) (1 + n) O (2 + k) rows ∧ q = lv (1 + G) (1 + n) O R') ∧ Comes DraftLift.K DraftLift.f DraftLift.s2 ⟨[i', (j : Int)], [], [D, some_, R]⟩ q := by
    intro j R hj hR H t
    have lR : R.len = j := by simp [V.len, hR]
    induction t with
    | zero =>
      intro i i' some_ s ht hi hs hsl hsx
      subst hi
      obtain ⟨x, r, x1, x2, x3, x4⟩ := Split_spec hs hsx (n := 2 + k) (G := 1 + G) (by omega) (by omega) (by omega)
      rw [Int.natCast_add, Int.natCast_add] at x4
      obtain ⟨q, q1, q2⟩ := H x r x1 x2 x3
      refine ⟨q, q1, Comes.step progOk DraftLift.p5 [x] ?_ q2⟩
      simp only [EvOk, E.b, E.i, E.v, Env.ext, evL]
      simp only [e0, e3, m0, m3]
      refine ⟨by omega, by omega, by omega, x4, ?_, by omega⟩
      rw [lR]; omega
    | succ t ih =>
      intro i i' some_ s ht hi hs hsl hsx
      subst hi
      have ls := hs.len
      by_cases h0 : 0 < l.length
      · have hx : ((3 : Int) * j + i).tmod L.len = (((3 * j + i) % l.length : Nat) : Int) := by
          rw [lL, ← tn]; congr 1
        have hlt : (3 * j + i) % l.length < l.length := Nat.mod_lt _ h0
        obtain ⟨d, hd⟩ : ∃ e, l[(3 * j + i) % l.length]? = some e := ⟨_, List.getElem?_eq_getElem hlt⟩
        have gd := hL.get hd
        have hd255 := hl d (List.mem_of_getElem? hd)
        obtain ⟨q, q1, q2⟩ := ih (i + 1) ((i : Int) + 1) (some_.snoc (.int ((L.get (((3 : Int) * j + i).tmod L.len)).toI))) (s ++ [d]) (by omega) (by omega) (by rw [hx, gd]; exact hs.snoc d) (by simp; omega) (by intro y hy; simp at hy; rcases hy with hy | hy; exact hsx y hy; omega)
        rw [← e4] at q2
        refine ⟨q, q1, Comes.step progOk DraftLift.p3 [] ?_ q2⟩
        simp only [EvOk, E.b, E.i, E.v, Env.ext, evL]
        simp only [e4, hx]
        rw [lL]
        omega
      · obtain ⟨x, r, x1, x2, x3, x4⟩ := Split_spec hs hsx (n := 2 + k) (G := 1 + G) (by omega) (by omega) (by omega)
        rw [Int.natCast_add, Int.natCast_add] at x4
        obtain ⟨q, q1, q2⟩ := H x r x1 x2 x3
        refine ⟨q, q1, Comes.step progOk DraftLift.p4 [x] ?_ q2⟩
        simp only [EvOk, E.b, E.i, E.v, Env.ext, evL]
        simp only [e0, e3, e4, m0, m3]
        refine ⟨by omega, by omega, by omega, by omega, x4, ?_, by omega⟩
        rw [lR]; omega
  have outer : ∀ (t j : Nat) (j' : Int) (R : V) (rows : List (List Nat)), t + j = 2 + n → j' = j → Inv R rows j → ∃ q, (∃ R' rows, LMod R' (1 + G) (1 + n) O (2 + k) rows ∧ q = lv (1 + G) (1 + n) O R') ∧ Comes DraftLift.K DraftLift.f DraftLift.s1 ⟨[j'], [], [D, R]⟩ q := by
    intro t
    induction t with
    | zero =>
      intro j j' R rows ht hj hI
      subst hj
      obtain ⟨i1, i2, i3⟩ := hI
      refine ⟨_, ⟨R, rows, ⟨by omega, by omega, by omega, by omega, by omega, by omega, by omega, by omega, by omega, i3⟩, rfl⟩, Comes.last progOk DraftLift.p2 [] ?_ ?_⟩
      · simp only [EvOk, E.b, E.i, E.v, Env.ext, evL]
        simp only [e1, m1]
        omega
      · simp only [E.i, E.v, Env.ext, List.append_nil, List.getD_cons_zero, List.getD_cons_succ, e0, e1, e2, m0, m1, m2]
        simp only [lv, Int.natCast_add]
        rfl
    | succ t ih =>
      intro j j' R rows ht hj hI
      subst hj
      obtain ⟨i1, i2, i3⟩ := hI
      obtain ⟨q, q1, q2⟩ := inner j R (by omega) i1 (fun x r h1 h2 h3 => ih (j + 1) ((j : Int) + 1) (R.snoc x) (rows ++ [r]) (by omega) (by omega) ⟨by rw [snoc_els, i1], by simp [i2], by
        intro i r' hr'
        by_cases hi : i < j
        · rw [List.getElem?_append_left (by omega)] at hr'
          rw [snoc_get_lt (by omega)]
          exact i3 i r' hr'
        · have : i = j := by
            have := (List.getElem?_eq_some_iff.1 hr').1
            simp at this; omega
          subst this
          rw [List.getElem?_append_right (by omega), i2, Nat.sub_self] at hr'
          simp at hr'
          subst hr'
          have := snoc_get_eq (R := R) (x := x)
          rw [i1] at this
          rw [this]
          exact ⟨h1, h2, h3⟩⟩) 4 0 0 .nil [] (by omega) rfl ints_nil (by simp) (by simp)
      refine ⟨q, q1, Comes.step progOk DraftLift.p1 [] ?_ q2⟩
      simp only [EvOk, E.b, E.i, E.v, Env.ext, evL]
      simp only [e1, m1]
      omega
  obtain ⟨q, ⟨R', rows, M, rfl⟩, q2⟩ := outer (2 + n) 0 0 .nil [] (by omega) rfl ⟨rfl, rfl, by simp⟩
  refine ⟨R', 1 + n, rows, M, rfl, Fn.of (C := DraftLift.K) DraftLift.b (Comes.step progOk DraftLift.p0 [] ?_ q2)⟩
  simp only [EvOk, E.b, E.i, E.v, Env.ext, evL]
  simp only [e0, e1, e2, m0, m1, m2]
  omega
end X
namespace X
open Go Go.Abs Go.Sym
set_option linter.unusedVariables false
set_option linter.unusedSimpArgs false

def tls (G n o : Nat) (rows : List (List Nat)) (c : Int) (e m : Nat) : List Nat := (List.range (n + 1)).map fun j => j * wt G n o rows c e m j
end X
/- Lifted models of all kinds: valid or not. -/
namespace X
open Go Go.Abs Go.Sym
set_option linter.unusedVariables false
set_option linter.unusedSimpArgs false

/-- A list of integers. -/
def Zs (x : V) (l : List Int) : Prop := x.els = l.map V.int
theorem Zs.len {a : V} {l : List Int} (h : Zs a l) : a.len = l.length := by unfold Zs at h; simp [V.len, h]
theorem Zs.get {a : V} {l : List Int} (h : Zs a l) {i : Nat} {d : Int} (hd : l[i]? = some d) : (a.get (i : Int)).toI = d := by
  unfold Zs at h; simp [V.get, h, hd, V.toI]
theorem Zs.ints {a : V} {l : List Int} (h : Zs a l) (h0 : ∀ w ∈ l, 0 ≤ w) : Ints a (l.map Int.toNat) := by
  unfold Zs at h; unfold Ints; rw [h, List.map_map]
  apply List.map_congr_left
  intro w hw
  have := h0 w hw
  show V.int w = V.int (Int.ofNat w.toNat)
  congr 1; simp; omega
theorem Ints.zs {a : V} {l : List Nat} (h : Ints a l) : Zs a (l.map Int.ofNat) := by
  unfold Ints at h; unfold Zs; rw [h, List.map_map]; rfl
/-- Rows of integers. -/
structure Tab (R : V) (rows : List (List Int)) : Prop where
  len : R.els.length = rows.length
  row : ∀ (j : Nat) (r : List Int), rows[j]? = some r → Zs (R.get (j : Int)) r
theorem Tab.lenI {R : V} {rows : List (List Int)} (h : Tab R rows) : R.len = rows.length := by simp [V.len, h.len]
/-- A lifted model of any kind: with few rows. -/
structure GMod (G C o : Int) (R : V) (rows : List (List Int)) : Prop where
  tab : Tab R rows
  rl : rows.length ≤ 12
  rw : ∀ r ∈ rows, r.length ≤ 6
  c1 : -9223372036854775808 ≤ C
  c2 : C ≤ 9223372036854775807
def gm (G C o : Int) (R : V) : V := .list [.int G, .int C, .int o, R]
theorem gm0 (G C o : Int) (R : V) : (gm G C o R).get 0 = .int G := rfl
theorem gm1 (G C o : Int) (R : V) : (gm G C o R).get 1 = .int C := rfl
theorem gm2 (G C o : Int) (R : V) : (gm G C o R).get 2 = .int o := rfl
theorem gm3 (G C o : Int) (R : V) : (gm G C o R).get 3 = R := rfl

/-- What the program looks for in a row. -/
def scan (G : Int) : Int → List Int → Option Int
  | s, [] => some s
  | s, w :: r => if w < 0 ∨ G < w then none else scan G (s + w) r
def vrows (G : Int) (k : Nat) : List (List Int) → Bool
  | [] => true
  | r :: rs => match scan G 0 r with
    | none => false
    | some s => decide (r.length = k) && decide (s = G) && vrows G k rs
def hd (rows : List (List Int)) : Nat := (rows.headD []).length
def okM (G C o : Int) (rows : List (List Int)) : Bool := decide (1 ≤ G ∧ G ≤ 20 ∧ 1 ≤ C ∧ C ≤ 10 ∧ 0 ≤ o ∧ o ≤ G ∧ (rows.length : Int) = C + 1) && (decide (2 ≤ hd rows ∧ hd rows ≤ 4) && vrows G (hd rows) rows)

theorem drop_cons {α : Type} {l : List α} {i : Nat} (h : i < l.length) : l.drop i = l[i] :: l.drop (i + 1) := List.drop_eq_getElem_cons h
theorem valid_dec {G C o : Int} {R : V} {rows : List (List Int)} (M : GMod G C o R rows) : Fn prog lift_valid.f [gm G C o R] (.bool (okM G C o rows)) := by
  obtain ⟨tab, rl, rw6, c1, c2⟩ := M
  have hR := tab.lenI
  have start : (∀ (h : 1 ≤ G ∧ G ≤ 20 ∧ 1 ≤ C ∧ C ≤ 10 ∧ 0 ≤ o ∧ o ≤ G ∧ (rows.length : Int) = C + 1), Comes lift_valid.K lift_valid.f lift_valid.s0 ⟨[], [], [gm G C o R]⟩ (.bool (decide (2 ≤ hd rows ∧ hd rows ≤ 4) && vrows G (hd rows) rows))) → Fn prog lift_valid.f [gm G C o R] (.bool (okM G C o rows)) := by
    intro H
    refine Fn.of (C := lift_valid.K) lift_valid.b ?_
    unfold okM
    by_cases q : 1 ≤ G ∧ G ≤ 20 ∧ 1 ≤ C ∧ C ≤ 10 ∧ 0 ≤ o ∧ o ≤ G ∧ (rows.length : Int) = C + 1
    · rw [decide_eq_true q, Bool.true_and]; exact H q
    · rw [decide_eq_false q, Bool.false_and]
      by_cases q1 : 1 ≤ G
      · by_cases q2 : G ≤ 20
        · by_cases q3 : 1 ≤ C
          · by_cases q4 : C ≤ 10
            · by_cases q5 : 0 ≤ o
              · by_cases q6 : o ≤ G
                · refine Comes.last progOk lift_valid.p6 [] ?_ rfl
                  simp only [EvOk, E.b, E.i, E.v, Env.ext, evL]; simp only [gm0, gm1, gm2, gm3, toI_int', hR, and_true, true_and]; omega
                · refine Comes.last progOk lift_valid.p5 [] ?_ rfl
                  simp only [EvOk, E.b, E.i, E.v, Env.ext, evL]; simp only [gm0, gm1, gm2, toI_int', and_true, true_and]; omega
              · refine Comes.last progOk lift_valid.p4 [] ?_ rfl
                simp only [EvOk, E.b, E.i, E.v, Env.ext, evL]; simp only [gm0, gm1, gm2, toI_int', and_true, true_and]; omega
            · refine Comes.last progOk lift_valid.p3 [] ?_ rfl
              simp only [EvOk, E.b, E.i, E.v, Env.ext, evL]; simp only [gm0, gm1, toI_int', and_true, true_and]; omega
          · refine Comes.last progOk lift_valid.p2 [] ?_ rfl
            simp only [EvOk, E.b, E.i, E.v, Env.ext, evL]; simp only [gm0, gm1, toI_int', and_true, true_and]; omega
        · refine Comes.last progOk lift_valid.p1 [] ?_ rfl
          simp only [EvOk, E.b, E.i, E.v, Env.ext, evL]; simp only [gm0, toI_int', and_true, true_and]; omega
      · refine Comes.last progOk lift_valid.p0 [] ?_ rfl
        simp only [EvOk, E.b, E.i, E.v, Env.ext, evL]; simp only [gm0, toI_int', and_true, true_and]; omega
  refine start fun q => ?_
  obtain ⟨q1, q2, q3, q4, q5, q6, q7⟩ := q
  have h0 : 0 < rows.length := by omega
  have hrow0 : rows[0]? = some rows[0] := List.getElem?_eq_getElem h0
  have hk : (R.get 0).len = (hd rows : Int) := by
    have := (tab.row 0 _ hrow0).len
    rw [show ((0 : Nat) : Int) = 0 from rfl] at this
    rw [this]; unfold hd
    cases rows with
    | nil => simp at h0
    | cons a b => rfl
  generalize hkk : hd rows = k at *
  have outer : ∀ (n j : Nat) (j' : Int), n + j = rows.length → j' = j → Comes lift_valid.K lift_valid.f lift_valid.s1 ⟨[j'], [], [gm G C o R]⟩ (.bool (vrows G k (rows.drop j))) := by
    intro n
    induction n with
    | zero =>
      intro j j' hn hj
      subst hj
      rw [List.drop_of_length_le (by omega)]
      refine Comes.last progOk lift_valid.p11 [] ?_ rfl
      simp only [EvOk, E.b, E.i, E.v, Env.ext, evL]; simp only [gm3, hR, and_true, true_and]; omega
    | succ n ih =>
      intro j j' hn hj
      subst hj
      have hj : j < rows.length := by omega
      have hr := tab.row j _ (List.getElem?_eq_getElem hj)
      have hrl := hr.len
      have h6 := rw6 rows[j] (List.getElem_mem hj)
      rw [drop_cons hj]
      have next := ih (j + 1) ((j : Int) + 1) (by omega) rfl
      generalize rows[j] = r at *
      -- the row
      have inner : ∀ (t i : Nat) (i' s : Int), t + i = r.length → i' = i → 0 ≤ s → s ≤ 20 * i → Comes lift_valid.K lift_valid.f lift_valid.s2 ⟨[s, i', (j : Int), (R.get (j : Int)).len], [], [gm G C o R, R.get (j : Int), R.get (j : Int)]⟩ (.bool (match scan G s (r.drop i) with | none => false | some s => decide (r.length = k) && decide (s = G) && vrows G k (rows.drop (j + 1)))) := by
        intro t
        induction t with
        | zero =>
          intro i i' s ht hi hs0 hs1
          subst hi
          rw [List.drop_of_length_le (by omega)]
          simp only [scan]
          by_cases p1 : r.length = k
          · by_cases p2 : s = G
            · simp only [p1, p2, decide_true, Bool.true_and]
              refine Comes.step progOk lift_valid.p17 [] ?_ next
              simp only [EvOk, E.b, E.i, E.v, Env.ext, evL]; simp only [gm0, gm3, toI_int', hrl, hk, and_true, true_and]; omega
            · rw [decide_eq_false p2, Bool.and_false, Bool.false_and]
              refine Comes.last progOk lift_valid.p16 [] ?_ rfl
              simp only [EvOk, E.b, E.i, E.v, Env.ext, evL]; simp only [gm0, gm3, toI_int', hrl, hk, and_true, true_and]; omega
          · rw [decide_eq_false p1, Bool.false_and, Bool.false_and]
            refine Comes.last progOk lift_valid.p15 [] ?_ rfl
            simp only [EvOk, E.b, E.i, E.v, Env.ext, evL]; simp only [gm0, gm3, toI_int', hrl, hk, and_true, true_and]; omega
        | succ t iht =>
          intro i i' s ht hi hs0 hs1
          subst hi
          have hi : i < r.length := by omega
          have gd := hr.get (List.getElem?_eq_getElem hi)
          rw [drop_cons hi]
          simp only [scan]
          generalize r[i] = w at *
          by_cases p1 : w < 0
          · rw [if_pos (.inl p1)]
            refine Comes.last progOk lift_valid.p12 [] ?_ rfl
            simp only [EvOk, E.b, E.i, E.v, Env.ext, evL]; simp only [gm0, gm3, toI_int', hrl, gd, and_true, true_and]; omega
          · by_cases p2 : G < w
            · rw [if_pos (.inr p2)]
              refine Comes.last progOk lift_valid.p13 [] ?_ rfl
              simp only [EvOk, E.b, E.i, E.v, Env.ext, evL]; simp only [gm0, gm3, toI_int', hrl, gd, and_true, true_and]; omega
            · rw [if_neg (by omega)]
              refine Comes.step progOk lift_valid.p14 [] ?_ (iht (i + 1) ((i : Int) + 1) (s + ((R.get (j : Int)).get (i : Int)).toI) (by omega) rfl (by rw [gd]; omega) (by rw [gd]; omega) |> fun x => by rw [gd] at x; rw [← gd] at x ⊢; exact x)
              simp only [EvOk, E.b, E.i, E.v, Env.ext, evL]; simp only [gm0, gm3, toI_int', hrl, gd, and_true, true_and]; omega
      have k0 := inner r.length 0 0 0 (by omega) rfl (by omega) (by omega)
      simp only [vrows]
      refine Comes.step progOk lift_valid.p10 [] ?_ k0
      simp only [EvOk, E.b, E.i, E.v, Env.ext, evL]; simp only [gm3, hR, and_true, true_and]; omega
  by_cases p1 : 2 ≤ k
  · by_cases p2 : k ≤ 4
    · rw [decide_eq_true ⟨p1, p2⟩, Bool.true_and]
      refine Comes.step progOk lift_valid.p9 [] ?_ (outer rows.length 0 0 (by omega) rfl)
      simp only [EvOk, E.b, E.i, E.v, Env.ext, evL]; simp only [gm0, gm1, gm2, gm3, toI_int', hR, hk, and_true, true_and]; omega
    · rw [decide_eq_false (by omega), Bool.false_and]
      refine Comes.last progOk lift_valid.p8 [] ?_ rfl
      simp only [EvOk, E.b, E.i, E.v, Env.ext, evL]; simp only [gm0, gm1, gm2, gm3, toI_int', hR, hk, and_true, true_and]; omega
  · rw [decide_eq_false (by omega), Bool.false_and]
    refine Comes.last progOk lift_valid.p7 [] ?_ rfl
    simp only [EvOk, E.b, E.i, E.v, Env.ext, evL]; simp only [gm0, gm1, gm2, gm3, toI_int', hR, hk, and_true, true_and]; omega
end X
namespace X
open Go Go.Abs Go.Sym
set_option linter.unusedVariables false
set_option linter.unusedSimpArgs false

def lscan : Int → List Int → Option Int
  | s, [] => some s
  | s, w :: r => if w < 0 ∨ s < w then none else lscan (s - w) r
def rrows (G : Int) (k : Nat) : List (List Int) → Bool
  | [] => true
  | r :: rs => decide (2 ≤ r.length ∧ r.length ≤ 4 ∧ r.length = k) && (match lscan G r with
    | none => false
    | some s => decide (s = 0) && rrows G k rs)
theorem scan_ge {G : Int} : ∀ {r : List Int} {s t : Int}, scan G s r = some t → s ≤ t
  | [], s, t, h => by simp [scan] at h; omega
  | w :: r, s, t, h => by
    unfold scan at h
    split at h
    · cases h
    · have := scan_ge h; omega
theorem scan_lscan {G : Int} : ∀ {r : List Int} {s left : Int}, 0 ≤ s → s + left = G → (scan G s r = some G ↔ lscan left r = some 0)
  | [], s, left, h0, h => by simp [scan, lscan]; omega
  | w :: r, s, left, h0, h => by
    unfold scan lscan
    by_cases p : w < 0
    · rw [if_pos (.inl p), if_pos (.inl p)]; simp
    · by_cases p2 : G < w
      · rw [if_pos (.inr p2), if_pos (.inr (by omega))]; simp
      · rw [if_neg (show ¬ (w < 0 ∨ G < w) by omega)]
        by_cases q : left < w
        · rw [if_pos (.inr q)]
          constructor
          · intro e; have := scan_ge e; omega
          · intro e; cases e
        · rw [if_neg (show ¬ (w < 0 ∨ left < w) by omega)]
          exact scan_lscan (by omega) (by omega)
theorem vrows_rrows (G : Int) (k : Nat) (hk : 2 ≤ k ∧ k ≤ 4) : ∀ rows, vrows G k rows = rrows G k rows
  | [] => rfl
  | r :: rs => by
    unfold vrows rrows
    have ih := vrows_rrows G k hk rs
    have key := scan_lscan (G := G) (r := r) (s := 0) (left := G) (by omega) (by omega)
    by_cases hl : r.length = k
    · rw [decide_eq_true (p := 2 ≤ r.length ∧ r.length ≤ 4 ∧ r.length = k) (by omega), Bool.true_and]
      cases h1 : scan G 0 r with
      | none =>
        cases h2 : lscan G r with
        | none => rfl
        | some t =>
          have : t ≠ 0 := by intro q; subst q; rw [h1] at key; exact absurd (key.2 h2) (by simp)
          simp [this]
      | some s =>
        by_cases hs : s = G
        · subst hs
          rw [key.1 h1]
          simp [hl, ih]
        · cases h2 : lscan G r with
          | none => simp [hs]
          | some t =>
            have : t ≠ 0 := by intro q; subst q; have := key.2 h2; rw [h1] at this; simp at this; exact hs this
            simp [hs, this]
    · rw [decide_eq_false (p := 2 ≤ r.length ∧ r.length ≤ 4 ∧ r.length = k) (by omega), Bool.false_and]
      cases scan G 0 r with
      | none => rfl
      | some s => simp [hl]
theorem okM_eq (G C o : Int) (rows : List (List Int)) : okM G C o rows = (decide (1 ≤ G ∧ G ≤ 20 ∧ 1 ≤ C ∧ C ≤ 10 ∧ 0 ≤ o ∧ o ≤ G ∧ (rows.length : Int) = C + 1) && rrows G (hd rows) rows) := by
  unfold okM
  by_cases q : 1 ≤ G ∧ G ≤ 20 ∧ 1 ≤ C ∧ C ≤ 10 ∧ 0 ≤ o ∧ o ≤ G ∧ (rows.length : Int) = C + 1
  · rw [decide_eq_true q, Bool.true_and, Bool.true_and]
    by_cases p : 2 ≤ hd rows ∧ hd rows ≤ 4
    · rw [decide_eq_true p, Bool.true_and]; exact vrows_rrows _ _ p _
    · rw [decide_eq_false p, Bool.false_and]
      cases rows with
      | nil => simp at q; omega
      | cons r rs =>
        unfold rrows
        have : hd (r :: rs) = r.length := rfl
        rw [this] at p ⊢
        rw [decide_eq_false (by omega), Bool.false_and]
  · rw [decide_eq_false q, Bool.false_and, Bool.false_and]

theorem Right_dec {G C o : Int} {R : V} {rows : List (List Int)} (M : GMod G C o R rows) : Fn prog ref14_Right.f [gm G C o R] (.bool (okM G C o rows)) := by
  rw [okM_eq]
  obtain ⟨tab, rl, rw6, c1, c2⟩ := M
  have hR := tab.lenI
  refine Fn.of (C := ref14_Right.K) ref14_Right.b ?_
  by_cases q : 1 ≤ G ∧ G ≤ 20 ∧ 1 ≤ C ∧ C ≤ 10 ∧ 0 ≤ o ∧ o ≤ G ∧ (rows.length : Int) = C + 1
  rotate_left
  · rw [decide_eq_false q, Bool.false_and]
    by_cases q1 : 1 ≤ G
    · by_cases q2 : G ≤ 20
      · by_cases q3 : 1 ≤ C
        · by_cases q4 : C ≤ 10
          · by_cases q5 : 0 ≤ o
            · by_cases q6 : o ≤ G
              · refine Comes.last progOk ref14_Right.p6 [] ?_ rfl
                simp only [EvOk, E.b, E.i, E.v, Env.ext, evL]; simp only [gm0, gm1, gm2, gm3, toI_int', hR, and_true, true_and]; omega
              · refine Comes.last progOk ref14_Right.p5 [] ?_ rfl
                simp only [EvOk, E.b, E.i, E.v, Env.ext, evL]; simp only [gm0, gm1, gm2, toI_int', and_true, true_and]; omega
            · refine Comes.last progOk ref14_Right.p4 [] ?_ rfl
              simp only [EvOk, E.b, E.i, E.v, Env.ext, evL]; simp only [gm0, gm1, gm2, toI_int', and_true, true_and]; omega
          · refine Comes.last progOk ref14_Right.p3 [] ?_ rfl
            simp only [EvOk, E.b, E.i, E.v, Env.ext, evL]; simp only [gm0, gm1, toI_int', and_true, true_and]; omega
        · refine Comes.last progOk ref14_Right.p2 [] ?_ rfl
          simp only [EvOk, E.b, E.i, E.v, Env.ext, evL]; simp only [gm0, gm1, toI_int', and_true, true_and]; omega
      · refine Comes.last progOk ref14_Right.p1 [] ?_ rfl
        simp only [EvOk, E.b, E.i, E.v, Env.ext, evL]; simp only [gm0, toI_int', and_true, true_and]; omega
    · refine Comes.last progOk ref14_Right.p0 [] ?_ rfl
      simp only [EvOk, E.b, E.i, E.v, Env.ext, evL]; simp only [gm0, toI_int', and_true, true_and]; omega
  rw [decide_eq_true q, Bool.true_and]
  obtain ⟨q1, q2, q3, q4, q5, q6, q7⟩ := q
  have h0 : 0 < rows.length := by omega
  have hk : (R.get 0).len = (hd rows : Int) := by
    have := (tab.row 0 _ (List.getElem?_eq_getElem h0)).len
    rw [show ((0 : Nat) : Int) = 0 from rfl] at this
    rw [this]; unfold hd
    cases rows with
    | nil => simp at h0
    | cons a b => rfl
  generalize hkk : hd rows = k at *
  have outer : ∀ (n j : Nat) (j' : Int), n + j = rows.length → j' = j → Comes ref14_Right.K ref14_Right.f ref14_Right.s1 ⟨[j'], [], [gm G C o R]⟩ (.bool (rrows G k (rows.drop j))) := by
    intro n
    induction n with
    | zero =>
      intro j j' hn hj
      subst hj
      rw [List.drop_of_length_le (by omega)]
      refine Comes.last progOk ref14_Right.p12 [] ?_ rfl
      simp only [EvOk, E.b, E.i, E.v, Env.ext, evL]; simp only [gm3, hR, and_true, true_and]; omega
    | succ n ih =>
      intro j j' hn hj
      subst hj
      have hj : j < rows.length := by omega
      have hr := tab.row j _ (List.getElem?_eq_getElem hj)
      have hrl := hr.len
      have h6 := rw6 rows[j] (List.getElem_mem hj)
      rw [drop_cons hj]
      have next := ih (j + 1) ((j : Int) + 1) (by omega) rfl
      generalize rows[j] = r at *
      unfold rrows
      by_cases a1 : 2 ≤ r.length
      rotate_left
      · rw [decide_eq_false (by omega), Bool.false_and]
        refine Comes.last progOk ref14_Right.p8 [] ?_ rfl
        simp only [EvOk, E.b, E.i, E.v, Env.ext, evL]; simp only [gm3, hR, hrl, hk, and_true, true_and]; omega
      by_cases a2 : r.length ≤ 4
      rotate_left
      · rw [decide_eq_false (by omega), Bool.false_and]
        refine Comes.last progOk ref14_Right.p9 [] ?_ rfl
        simp only [EvOk, E.b, E.i, E.v, Env.ext, evL]; simp only [gm3, hR, hrl, hk, and_true, true_and]; omega
      by_cases a3 : r.length = k
      rotate_left
      · rw [decide_eq_false (by omega), Bool.false_and]
        refine Comes.last progOk ref14_Right.p10 [] ?_ rfl
        simp only [EvOk, E.b, E.i, E.v, Env.ext, evL]; simp only [gm3, hR, hrl, hk, and_true, true_and]; omega
      rw [decide_eq_true ⟨a1, a2, a3⟩, Bool.true_and]
      have inner : ∀ (t i : Nat) (i' s : Int), t + i = r.length → i' = i → 0 ≤ s → s ≤ 20 → Comes ref14_Right.K ref14_Right.f ref14_Right.s2 ⟨[s, i', (j : Int)], [], [gm G C o R]⟩ (.bool (match lscan s (r.drop i) with | none => false | some s => decide (s = 0) && rrows G k (rows.drop (j + 1)))) := by
        intro t
        induction t with
        | zero =>
          intro i i' s ht hi hs0 hs1
          subst hi
          rw [List.drop_of_length_le (by omega)]
          simp only [lscan]
          by_cases p2 : s = 0
          · simp only [p2, decide_true, Bool.true_and]
            refine Comes.step progOk ref14_Right.p17 [] ?_ next
            simp only [EvOk, E.b, E.i, E.v, Env.ext, evL]; simp only [gm3, hR, hrl, and_true, true_and]; omega
          · rw [decide_eq_false p2, Bool.false_and]
            refine Comes.last progOk ref14_Right.p16 [] ?_ rfl
            simp only [EvOk, E.b, E.i, E.v, Env.ext, evL]; simp only [gm3, hR, hrl, and_true, true_and]; omega
        | succ t iht =>
          intro i i' s ht hi hs0 hs1
          subst hi
          have hi : i < r.length := by omega
          have gd := hr.get (List.getElem?_eq_getElem hi)
          rw [drop_cons hi]
          simp only [lscan]
          generalize r[i] = w at *
          by_cases p1 : w < 0
          · rw [if_pos (.inl p1)]
            refine Comes.last progOk ref14_Right.p13 [] ?_ rfl
            simp only [EvOk, E.b, E.i, E.v, Env.ext, evL]; simp only [gm3, hR, hrl, gd, and_true, true_and]; omega
          · by_cases p2 : s < w
            · rw [if_pos (.inr p2)]
              refine Comes.last progOk ref14_Right.p14 [] ?_ rfl
              simp only [EvOk, E.b, E.i, E.v, Env.ext, evL]; simp only [gm3, hR, hrl, gd, and_true, true_and]; omega
            · rw [if_neg (by omega)]
              have nx := iht (i + 1) ((i : Int) + 1) (s - w) (by omega) rfl (by omega) (by omega)
              rw [← gd] at nx ⊢
              refine Comes.step progOk ref14_Right.p15 [] ?_ nx
              simp only [EvOk, E.b, E.i, E.v, Env.ext, evL]; simp only [gm3, hR, hrl, gd, and_true, true_and]; omega
      refine Comes.step progOk ref14_Right.p11 [] ?_ (inner r.length 0 0 G (by omega) rfl (by omega) (by omega))
      simp only [EvOk, E.b, E.i, E.v, Env.ext, evL]; simp only [gm0, gm3, toI_int', hR, hrl, hk, and_true, true_and]; omega
  refine Comes.step progOk ref14_Right.p7 [] ?_ (outer rows.length 0 0 (by omega) rfl)
  simp only [EvOk, E.b, E.i, E.v, Env.ext, evL]; simp only [gm0, gm1, gm2, gm3, toI_int', hR, hk, and_true, true_and]; omega

/-- A model that is valid. -/
theorem lscan_sum : ∀ {r : List Int} {s t : Int}, lscan s r = some t → (∀ w ∈ r, 0 ≤ w) ∧ ((r.map Int.toNat).sum : Int) = s - t
  | [], s, t, h => by simp [lscan] at h; subst h; simp
  | w :: r, s, t, h => by
    unfold lscan at h
    split at h
    · cases h
    · obtain ⟨h1, h2⟩ := lscan_sum h
      refine ⟨fun x hx => ?_, ?_⟩
      · rcases List.mem_cons.1 hx with rfl | hx
        · omega
        · exact h1 x hx
      · simp only [List.map_cons, List.sum_cons, Int.natCast_add, h2]; omega
theorem rrows_get {G : Int} {k : Nat} : ∀ {rows : List (List Int)}, rrows G k rows = true → ∀ r ∈ rows, r.length = k ∧ 2 ≤ k ∧ k ≤ 4 ∧ lscan G r = some 0
  | [], _, r, hr => by simp at hr
  | a :: rows, h, r, hr => by
    unfold rrows at h
    simp only [Bool.and_eq_true, decide_eq_true_eq] at h
    obtain ⟨h1, h2⟩ := h
    split at h2
    · cases h2
    · rename_i s hs
      simp only [Bool.and_eq_true, decide_eq_true_eq] at h2
      obtain ⟨rfl, h3⟩ := h2
      rcases List.mem_cons.1 hr with rfl | hr
      · exact ⟨h1.2.2, by omega, by omega, hs⟩
      · exact rrows_get h3 r hr
theorem okM_mod {G C o : Int} {R : V} {rows : List (List Int)} (M : GMod G C o R rows) (h : okM G C o rows = true) : ∃ (g n p k : Nat), G = g ∧ C = n ∧ o = p ∧ k = hd rows ∧ LMod R g n p k (rows.map fun r => r.map Int.toNat) ∧ gm G C o R = lv g n p R := by
  rw [okM_eq] at h
  simp only [Bool.and_eq_true, decide_eq_true_eq] at h
  obtain ⟨⟨q1, q2, q3, q4, q5, q6, q7⟩, hr⟩ := h
  obtain ⟨g, rfl⟩ : ∃ g : Nat, G = g := ⟨G.toNat, by omega⟩
  obtain ⟨n, rfl⟩ : ∃ g : Nat, C = g := ⟨C.toNat, by omega⟩
  obtain ⟨p, rfl⟩ : ∃ g : Nat, o = g := ⟨o.toNat, by omega⟩
  have h0 : 0 < rows.length := by omega
  have hg := rrows_get hr
  obtain ⟨kk, k2, k4, _⟩ := hg _ (List.getElem_mem h0)
  have hhd : hd rows = (rows.headD []).length := rfl
  rw [hhd] at hg k2 k4
  have tab := M.tab
  clear M
  refine ⟨g, n, p, (rows.headD []).length, rfl, rfl, rfl, rfl, LMod.mk (by omega) (by omega) (by omega) (by omega) (by omega) (by omega) (by omega) (by rw [List.length_map]; omega) (by rw [tab.len]; omega) ?_, rfl⟩
  intro j r hj
  simp only [List.getElem?_map, Option.map_eq_some_iff] at hj
  obtain ⟨r0, hj, rfl⟩ := hj
  obtain ⟨e1, _, _, e2⟩ := hg r0 (List.mem_of_getElem? hj)
  obtain ⟨f1, f2⟩ := lscan_sum e2
  exact ⟨(tab.row j r0 hj).ints f1, by rw [List.length_map]; omega, by omega⟩
end X
namespace X
open Go Go.Abs Go.Sym
set_option linter.unusedVariables false
set_option linter.unusedSimpArgs false

/-! ### How many combinations there are -/
def cntF (f : Nat → Bool) : Nat → Nat
  | 0 => 0
  | n + 1 => cntF f n + (if f n then 1 else 0)
theorem cntF_le (f : Nat → Bool) : ∀ n, cntF f n ≤ n
  | 0 => Nat.le_refl _
  | n + 1 => by have := cntF_le f n; unfold cntF; split <;> omega
theorem cntF_add (f : Nat → Bool) (a : Nat) : ∀ b, cntF f (a + b) = cntF f a + cntF (fun i => f (a + i)) b
  | 0 => rfl
  | b + 1 => by
    show cntF f (a + b) + (if f (a + b) then 1 else 0) = cntF f a + (cntF (fun i => f (a + i)) b + (if f (a + b) then 1 else 0))
    rw [cntF_add f a b]; omega
theorem cntF_congr {f g : Nat → Bool} : ∀ {n : Nat}, (∀ i, i < n → f i = g i) → cntF f n = cntF g n
  | 0, _ => rfl
  | n + 1, h => by unfold cntF; rw [cntF_congr fun i hi => h i (by omega), h n (by omega)]
theorem cntF_false : ∀ n, cntF (fun _ => false) n = 0
  | 0 => rfl
  | n + 1 => by unfold cntF; rw [cntF_false n]; rfl
def bit (c v : Nat) : Nat := c / 2 ^ v % 2
def pc (c : Nat) : Nat → Nat
  | 0 => 0
  | v + 1 => pc c v + bit c v
def ag (z e c : Nat) : Nat → Bool
  | 0 => true
  | v + 1 => ag z e c v && (if bit c v = 1 then decide (z ≤ v) else decide (v < z) || decide (z + e ≤ v))
theorem bit_low {v i u : Nat} (h : u < v) : bit (2 ^ v + i) u = bit i u := by
  unfold bit
  obtain ⟨d, rfl⟩ : ∃ d, v = u + 1 + d := ⟨v - u - 1, by omega⟩
  have : 2 ^ (u + 1 + d) = 2 ^ u * (2 * 2 ^ d) := by rw [Nat.pow_add, Nat.pow_succ, Nat.mul_assoc]
  rw [this, Nat.mul_add_div (Nat.two_pow_pos u)]
  omega
theorem bit_top {v i : Nat} (h : i < 2 ^ v) : bit (2 ^ v + i) v = 1 := by
  unfold bit
  have : (2 ^ v + i) / 2 ^ v = 1 + i / 2 ^ v := by
    have := Nat.mul_add_div (Nat.two_pow_pos v) 1 i
    rw [Nat.mul_one] at this; exact this
  rw [this, Nat.div_eq_of_lt h]
theorem bit_none {v i : Nat} (h : i < 2 ^ v) : bit i v = 0 := by unfold bit; rw [Nat.div_eq_of_lt h]
theorem pc_low {v i : Nat} : ∀ {u : Nat}, u ≤ v → pc (2 ^ v + i) u = pc i u
  | 0, _ => rfl
  | u + 1, h => by unfold pc; rw [pc_low (by omega), bit_low (by omega)]
theorem ag_low {z e v i : Nat} : ∀ {u : Nat}, u ≤ v → ag z e (2 ^ v + i) u = ag z e i u
  | 0, _ => rfl
  | u + 1, h => by unfold ag; rw [ag_low (by omega), bit_low (by omega)]
theorem pc_le (c : Nat) : ∀ v, pc c v ≤ v
  | 0 => Nat.le_refl _
  | v + 1 => by have := pc_le c v; unfold pc bit; omega
theorem pc_succ (c v : Nat) : pc c (v + 1) = pc c v + bit c v := rfl
theorem ag_succ (z e c v : Nat) : ag z e c (v + 1) = (ag z e c v && (if bit c v = 1 then decide (z ≤ v) else decide (v < z) || decide (z + e ≤ v))) := rfl
def sel (z e v k : Nat) (c : Nat) : Bool := ag z e c v && decide (pc c v = k)
def num (z e v k : Nat) : Nat := cntF (sel z e v k) (2 ^ v)
theorem num_step (z e v k : Nat) : num z e (v + 1) k = (if v < z ∨ z + e ≤ v then num z e v k else 0) + (if z ≤ v ∧ 0 < k then num z e v (k - 1) else 0) := by
  unfold num
  rw [show 2 ^ (v + 1) = 2 ^ v + 2 ^ v from by rw [Nat.pow_succ]; omega, cntF_add]
  congr 1
  · by_cases h : v < z ∨ z + e ≤ v
    · rw [if_pos h]
      refine cntF_congr fun i hi => ?_
      unfold sel
      rw [pc_succ, ag_succ, bit_none hi]
      have : (decide (v < z) || decide (z + e ≤ v)) = true := by simpa using h
      simp [this]
    · rw [if_neg h]
      rw [← cntF_false (2 ^ v)]
      refine cntF_congr fun i hi => ?_
      unfold sel
      rw [ag_succ, bit_none hi]
      have : (decide (v < z) || decide (z + e ≤ v)) = false := by simpa using h
      simp [this]
  · by_cases h : z ≤ v ∧ 0 < k
    · rw [if_pos h]
      refine cntF_congr fun i hi => ?_
      unfold sel
      rw [pc_succ, ag_succ, bit_top hi, pc_low (Nat.le_refl _), ag_low (Nat.le_refl _)]
      rw [if_pos rfl, decide_eq_true h.1, Bool.and_true]
      congr 1
      rw [decide_eq_decide]
      omega
    · rw [if_neg h]
      rw [← cntF_false (2 ^ v)]
      refine cntF_congr fun i hi => ?_
      unfold sel
      rw [pc_succ, ag_succ, bit_top hi, pc_low (Nat.le_refl _), ag_low (Nat.le_refl _)]
      by_cases hz : z ≤ v
      · have : ¬ pc i v + 1 = k := by omega
        simp [this]
      · simp [hz]
theorem num_zeros (z e k : Nat) : ∀ v, v ≤ z → num z e v k = if k = 0 then 1 else 0
  | 0, _ => by
    by_cases h : k = 0
    · subst h; rfl
    · rw [if_neg h]
      show 0 + (if sel z e 0 k 0 = true then 1 else 0) = 0
      have : sel z e 0 k 0 = false := by
        show (true && decide (0 = k)) = false
        simp [Ne.symm h]
      rw [this]; rfl
  | v + 1, h => by
    rw [num_step, if_pos (.inl (by omega)), if_neg (by omega), num_zeros z e k v (by omega)]; rfl
theorem num_ones (z e : Nat) : ∀ d k, d ≤ e → num z e (z + d) k = if k = d then 1 else 0
  | 0, k, _ => num_zeros z e k z (Nat.le_refl _)
  | d + 1, k, h => by
    rw [← Nat.add_assoc, num_step, if_neg (by omega)]
    by_cases hk : 0 < k
    · rw [if_pos ⟨by omega, hk⟩, num_ones z e d (k - 1) (by omega)]
      by_cases q : k - 1 = d
      · rw [if_pos q, if_pos (by omega)]
      · rw [if_neg q, if_neg (by omega)]
    · rw [if_neg (by omega), if_neg (by omega)]
theorem num_free (z e : Nat) : ∀ m k, num z e (z + e + m) k = if e ≤ k ∧ k ≤ e + m then bin m (k - e) else 0
  | 0, k => by
    rw [Nat.add_zero, num_ones z e e k (Nat.le_refl _)]
    by_cases h : k = e
    · subst h; rw [if_pos rfl, if_pos (by omega), Nat.sub_self]; rfl
    · rw [if_neg h, if_neg (by omega)]
  | m + 1, k => by
    rw [← Nat.add_assoc, num_step, if_pos (show z + e + m < z ∨ z + e ≤ z + e + m from .inr (by omega)), num_free z e m k]
    by_cases hk : 0 < k
    · rw [if_pos (show z ≤ z + e + m ∧ 0 < k from ⟨by omega, hk⟩), num_free z e m (k - 1)]
      by_cases h1 : e ≤ k ∧ k ≤ e + (m + 1)
      · rw [if_pos h1]
        by_cases h2 : k = e
        · subst h2
          rw [if_pos (by omega), if_neg (by omega), Nat.sub_self]
          cases m <;> rfl
        · rw [if_pos (show e ≤ k - 1 ∧ k - 1 ≤ e + m by omega)]
          obtain ⟨d, rfl⟩ : ∃ d, k = e + 1 + d := ⟨k - e - 1, by omega⟩
          rw [show e + 1 + d - 1 - e = d from by omega, show e + 1 + d - e = d + 1 from by omega]
          by_cases h3 : e ≤ e + 1 + d ∧ e + 1 + d ≤ e + m
          · rw [if_pos h3]
            show _ = bin m d + bin m (d + 1)
            omega
          · rw [if_neg h3]
            have : d = m := by omega
            subst this
            show 0 + bin d d = bin d d + bin d (d + 1)
            have : ∀ d, bin d (d + 1) = 0 := by
              have gen : ∀ n k, n < k → bin n k = 0 := by
                intro n
                induction n with
                | zero => intro k hk; obtain ⟨j, rfl⟩ : ∃ j, k = j + 1 := ⟨k - 1, by omega⟩; rfl
                | succ n ih =>
                  intro k hk
                  obtain ⟨j, rfl⟩ : ∃ j, k = j + 1 := ⟨k - 1, by omega⟩
                  show bin n j + bin n (j + 1) = 0
                  rw [ih j (by omega), ih (j + 1) (by omega)]
              exact fun d => gen d (d + 1) (by omega)
            rw [this]; omega
      · rw [if_neg h1, if_neg (by omega), if_neg (by omega)]
    · rw [if_neg (show ¬ (z ≤ z + e + m ∧ 0 < k) by omega)]
      by_cases h1 : e ≤ k ∧ k ≤ e + m
      · rw [if_pos h1, if_pos (by omega)]
        have hk0 : k = 0 := by omega
        have he : e = 0 := by omega
        subst hk0; subst he
        cases m <;> rfl
      · rw [if_neg h1, if_neg (by omega)]

/-! ### The reference's weights -/
theorem bit_int (c v : Nat) (hv : v ≤ 10) : ((c : Int).fdiv (2 ^ (Nat.min ((v : Int)).toNat IntKind.i64.bits))).tmod 2 = (bit c v : Int) := by
  have h1 : Nat.min ((v : Int)).toNat IntKind.i64.bits = v := by
    show min _ 64 = v
    simp; omega
  rw [h1]
  have h2 : (2 : Int) ^ v = ((2 ^ v : Nat) : Int) := by simp
  rw [h2, Int.fdiv_eq_ediv_of_nonneg _ (Int.natCast_nonneg _), ← Int.natCast_ediv, Int.tmod_eq_emod_of_nonneg (Int.natCast_nonneg _)]
  rfl
theorem shl_int (n : Nat) (hn : n ≤ 10) : (1 : Int) * 2 ^ (Nat.min ((n : Int)).toNat IntKind.i64.bits) = ((2 ^ n : Nat) : Int) := by
  have h1 : Nat.min ((n : Int)).toNat IntKind.i64.bits = n := by
    show min _ 64 = n
    simp; omega
  rw [h1]; simp
theorem pow_le20 {a k : Nat} (ha : a ≤ 20) : a ^ k ≤ 20 ^ k := Nat.pow_le_pow_left ha k
def uw (G n o : Nat) (rows : List (List Nat)) (ch : Int) (k : Nat) : Nat := o ^ k * (G - o) ^ (n - k) * shw G rows ch k
theorem prod_le {G n o p k : Nat} (hG : G ≤ 20) (ho : o ≤ G) (hp : p ≤ k) (hk : k ≤ 10) : o ^ p * (G - o) ^ (k - p) ≤ 20 ^ 10 := by
  have h1 : o ^ p ≤ 20 ^ p := pow_le20 (by omega)
  have h2 : (G - o) ^ (k - p) ≤ 20 ^ (k - p) := pow_le20 (by omega)
  have h3 : 20 ^ p * 20 ^ (k - p) = 20 ^ k := by rw [← Nat.pow_add]; congr 1; omega
  have h4 : 20 ^ k ≤ 20 ^ 10 := Nat.pow_le_pow_right (by omega) hk
  calc o ^ p * (G - o) ^ (k - p) ≤ 20 ^ p * 20 ^ (k - p) := Nat.mul_le_mul h1 h2
    _ = 20 ^ k := h3
    _ ≤ 20 ^ 10 := h4
theorem Weights_spec {R : V} {G n o k : Nat} {rows : List (List Nat)} (M : LMod R G n o k rows) {z e m : Nat} {c : Int} (h1 : z + e + m = n) (h2 : -1 ≤ c) (h3 : c < k) : ∃ r, Ints r (wts G n o rows c e m) ∧ Fn prog ref14_Weights.f [lv G n o R, .int z, .int e, .int c] r := by
  have hG := M.g2
  have hn := M.n2
  have ho := M.o1
  have hR : R.len = (n + 1 : Int) := by simp [V.len, M.rlen]
  have l0 : ((lv G n o R).get 0).toI = G := rfl
  have l1 : ((lv G n o R).get 1).toI = n := rfl
  have l2 : ((lv G n o R).get 2).toI = o := rfl
  have l3 : (lv G n o R).get 3 = R := rfl
  have hsh := shl_int n hn
  have h2n : 2 ^ n ≤ 1024 := by
    have : 2 ^ n ≤ 2 ^ 10 := Nat.pow_le_pow_right (by omega) hn
    exact this
  have hbig : 1024 * (20 ^ 10 * 20) ≤ 9000000000000000000 := by decide
  have h20 : 20 ^ 10 * 20 ≤ 9000000000000000000 := by decide
  have h20' : 20 ^ 10 ≤ 9000000000000000000 := by decide
  generalize hBB : 20 ^ 10 = BB at *
  have ul : ∀ k, k ≤ n → uw G n o rows c k ≤ BB * 20 := by
    intro k hk
    unfold uw
    have := prod_le (n := n) hG ho hk hn
    rw [hBB] at this
    exact Nat.mul_le_mul this (shw_le M c k)
  generalize hN : 2 ^ n = N at *
  let D := lv G n o R
  let Z : V := .int z
  let E' : V := .int e
  let Cc : V := .int c
  let cl := fun (c0 : Nat) => (List.range (n + 1)).map fun k => cntF (sel z e n k) c0 * uw G n o rows c k
  have outer : ∀ (t c0 : Nat) (c' : Int) (out : V), t + c0 = N → c' = c0 → Ints out (cl c0) → ∃ r, Ints r (cl N) ∧ Comes ref14_Weights.K ref14_Weights.f ref14_Weights.s1 ⟨[c'], [], [D, Z, E', Cc, out]⟩ r := by
    intro t
    induction t with
    | zero =>
      intro c0 c' out ht hc hout
      subst hc
      have : c0 = N := by omega
      subst this
      refine ⟨out, hout, Comes.last progOk ref14_Weights.p2 [] ?_ rfl⟩
      simp only [EvOk, E.b, E.i, E.v, Env.ext, evL]
      show _ ∧ _
      simp only [D, l1, hsh]
      refine ⟨by omega, by omega, by omega, by omega⟩
    | succ t ih =>
      intro c0 c' out ht hc hout
      subst hc
      have hol := hout.len
      have hcl : (cl c0).length = n + 1 := by simp [cl]
      rw [hcl] at hol
      -- the values of the members
      have inner : ∀ (s v : Nat) (v' k' w' : Int) (b : Bool), s + v = n → v' = v → k' = pc c0 v → w' = ((o ^ pc c0 v * (G - o) ^ (v - pc c0 v) : Nat) : Int) → b = ag z e c0 v → ∃ r, Ints r (cl N) ∧ Comes ref14_Weights.K ref14_Weights.f ref14_Weights.s2 ⟨[k', w', v', (c0 : Int)], [b], [D, Z, E', Cc, out]⟩ r := by
        intro s
        induction s with
        | zero =>
          intro v v' k' w' b hs hv hk hw hb
          have : v = n := by omega
          subst this hv hk hw hb
          have hpl := pc_le c0 v
          have hselk : ∀ j, j ≠ pc c0 v → sel z e v j c0 = false := by
            intro j hj; unfold sel; simp [Ne.symm hj]
          cases hag : ag z e c0 v with
          | false =>
            have hcl2 : cl (c0 + 1) = cl c0 := by
              simp only [cl]
              refine List.map_congr_left fun j _ => ?_
              have : sel z e v j c0 = false := by unfold sel; rw [hag]; rfl
              simp only [cntF, this]; simp
            obtain ⟨r, r1, r2⟩ := ih (c0 + 1) ((c0 : Int) + 1) out (by omega) (by omega) (by rw [hcl2]; exact hout)
            refine ⟨r, r1, Comes.step progOk ref14_Weights.p8 [] ?_ r2⟩
            simp only [EvOk, E.b, E.i, E.v, Env.ext, evL]
            simp only [D, l1, and_true, true_and]; omega
          | true =>
            have hpj : (cl c0)[pc c0 v]? = some (cntF (sel z e v (pc c0 v)) c0 * uw G v o rows c (pc c0 v)) := by
              simp only [cl, List.getElem?_map, List.getElem?_range (show pc c0 v < v + 1 by omega)]; rfl
            have gd := hout.get hpj
            have hw1 := prod_le (n := v) hG ho hpl hn
            rw [hBB] at hw1
            have hu := ul _ hpl
            have hcle := cntF_le (sel z e v (pc c0 v)) c0
            have hmul : cntF (sel z e v (pc c0 v)) c0 * uw G v o rows c (pc c0 v) ≤ c0 * (BB * 20) := Nat.mul_le_mul hcle hu
            have hc0 : c0 * (BB * 20) + BB * 20 ≤ 1024 * (BB * 20) := by
              have : (c0 + 1) * (BB * 20) ≤ 1024 * (BB * 20) := Nat.mul_le_mul_right _ (by omega)
              rw [Nat.succ_mul] at this; exact this
            have hnew : ∀ X : Nat, X = uw G v o rows c (pc c0 v) → Ints (out.set (pc c0 v : Int) (.int ((cntF (sel z e v (pc c0 v)) c0 * uw G v o rows c (pc c0 v) : Nat) + (X : Int)))) (cl (c0 + 1)) := by
              intro X hX
              have := hout.set (pc c0 v) (cntF (sel z e v (pc c0 v)) c0 * uw G v o rows c (pc c0 v) + X)
              rw [show (cl c0).set (pc c0 v) (cntF (sel z e v (pc c0 v)) c0 * uw G v o rows c (pc c0 v) + X) = cl (c0 + 1) from ?_] at this
              · exact this
              · refine map_set _ _ _ _ _ fun j => ?_
                by_cases hj : j = pc c0 v
                · subst hj
                  rw [if_pos rfl]
                  have : sel z e v (pc c0 v) c0 = true := by unfold sel; rw [hag]; simp
                  simp only [cntF, this, if_true, Nat.add_mul, Nat.one_mul, hX]
                · rw [if_neg hj]
                  simp only [cntF, hselk j hj]; simp
            by_cases hc1 : c = -1
            · have hX : o ^ pc c0 v * (G - o) ^ (v - pc c0 v) * G = uw G v o rows c (pc c0 v) := by
                unfold uw shw; rw [if_pos (by omega)]
              obtain ⟨r, r1, r2⟩ := ih (c0 + 1) ((c0 : Int) + 1) _ (by omega) (by omega) (hnew _ hX)
              rw [← gd] at r2
              refine ⟨r, r1, Comes.step progOk ref14_Weights.p9 [] ?_ r2⟩
              simp only [EvOk, E.b, E.i, E.v, Env.ext, evL]
              simp only [D, Cc, l0, l1, toI_int', gd, hol, and_true, true_and]
              have e1 : ((o ^ pc c0 v * (G - o) ^ (v - pc c0 v) : Nat) : Int) * (G : Int) = ((uw G v o rows c (pc c0 v) : Nat) : Int) := by rw [← hX]; simp
              rw [e1]
              omega
            · obtain ⟨cn, rfl⟩ : ∃ x : Nat, c = x := ⟨c.toNat, by omega⟩
              obtain ⟨rr, hrr⟩ : ∃ r, rows[pc c0 v]? = some r := ⟨_, List.getElem?_eq_getElem (by rw [M.len]; omega)⟩
              obtain ⟨y1, y2, y3⟩ := M.row _ _ hrr
              obtain ⟨d, hd⟩ : ∃ x, rr[cn]? = some x := ⟨_, List.getElem?_eq_getElem (by omega)⟩
              have gr := y1.get hd
              have grl := y1.len
              have hX : o ^ pc c0 v * (G - o) ^ (v - pc c0 v) * d = uw G v o rows (cn : Int) (pc c0 v) := by
                unfold uw shw; rw [if_neg (by omega), hrr]; simp [hd]
              obtain ⟨r, r1, r2⟩ := ih (c0 + 1) ((c0 : Int) + 1) _ (by omega) (by omega) (hnew _ hX)
              have e1 : ((o ^ pc c0 v * (G - o) ^ (v - pc c0 v) : Nat) : Int) * (d : Int) = ((uw G v o rows (cn : Int) (pc c0 v) : Nat) : Int) := by rw [← hX]; simp
              rw [← gd, show ((o ^ pc c0 v * (G - o) ^ (v - pc c0 v) * d : Nat) : Int) = ((o ^ pc c0 v * (G - o) ^ (v - pc c0 v) : Nat) : Int) * (((R.get (pc c0 v : Int)).get (cn : Int)).toI) from by rw [gr]; simp] at r2
              refine ⟨r, r1, Comes.step progOk ref14_Weights.p10 [] ?_ r2⟩
              simp only [EvOk, E.b, E.i, E.v, Env.ext, evL]
              simp only [D, Cc, l0, l1, l3, toI_int', gd, gr, grl, hol, hR, e1, and_true, true_and]
              omega
        | succ s ihs =>
          intro v v' k' w' b hs hv hk hw hb
          subst hv hk hw hb
          have hb := bit_int c0 v (by omega)
          have hb01 : bit c0 v = 0 ∨ bit c0 v = 1 := by unfold bit; omega
          have hpl := pc_le c0 v
          have hw1 := prod_le (n := n) hG ho hpl (by omega)
          rw [hBB] at hw1
          rcases hb01 with q | q
          · -- 0
            have hp : pc c0 (v + 1) = pc c0 v := by show pc c0 v + bit c0 v = _; rw [q]; rfl
            have hwn : ((o ^ pc c0 v * (G - o) ^ (v - pc c0 v) : Nat) : Int) * ((G : Int) - o) = ((o ^ pc c0 (v + 1) * (G - o) ^ (v + 1 - pc c0 (v + 1)) : Nat) : Int) := by
              rw [hp, show v + 1 - pc c0 v = (v - pc c0 v) + 1 from by omega, Nat.pow_succ, ← Nat.mul_assoc, Int.natCast_mul (o ^ pc c0 v * (G - o) ^ (v - pc c0 v)) (G - o)]
              congr 1; omega
            have hw2 := prod_le (n := n) hG ho (pc_le c0 (v + 1)) (show v + 1 ≤ 10 by omega)
            rw [hBB] at hw2
            have nx := fun b hb => ihs (v + 1) ((v : Int) + 1) (pc c0 v) _ b (by omega) (by omega) (by rw [hp]) rfl hb
            rw [← hwn] at nx
            cases hag : ag z e c0 v with
            | false =>
              obtain ⟨r, r1, r2⟩ := nx false (by show false = (ag z e c0 v && _); rw [hag]; rfl)
              refine ⟨r, r1, Comes.step progOk ref14_Weights.p7 [] ?_ r2⟩
              simp only [EvOk, E.b, E.i, E.v, Env.ext, evL]
              simp only [D, l0, l1, l2, hb, q, hwn, and_true, true_and]
              omega
            | true =>
              by_cases hz : v < z
              · obtain ⟨r, r1, r2⟩ := nx true (by show true = (ag z e c0 v && _); rw [hag, q]; simp [hz])
                refine ⟨r, r1, Comes.step progOk ref14_Weights.p5 [] ?_ r2⟩
                simp only [EvOk, E.b, E.i, E.v, Env.ext, evL]
                simp only [D, Z, E', l0, l1, l2, hb, q, hwn, toI_int', and_true, true_and]
                omega
              · obtain ⟨r, r1, r2⟩ := nx (leB ((z : Int) + e) v) (by
                  show leB ((z : Int) + e) v = (ag z e c0 v && (if bit c0 v = 1 then decide (z ≤ v) else decide (v < z) || decide (z + e ≤ v)))
                  rw [hag, q]
                  simp only [Bool.true_and, decide_eq_false hz, Bool.false_or]
                  rw [if_neg (by omega)]
                  unfold leB
                  rw [decide_eq_decide]; omega)
                refine ⟨r, r1, Comes.step progOk ref14_Weights.p6 [] ?_ r2⟩
                simp only [EvOk, E.b, E.i, E.v, Env.ext, evL]
                simp only [D, Z, E', l0, l1, l2, hb, q, hwn, toI_int', and_true, true_and]
                omega
          · -- 1
            have hp : pc c0 (v + 1) = pc c0 v + 1 := by show pc c0 v + bit c0 v = _; rw [q]
            have hwn : ((o ^ pc c0 v * (G - o) ^ (v - pc c0 v) : Nat) : Int) * (o : Int) = ((o ^ pc c0 (v + 1) * (G - o) ^ (v + 1 - pc c0 (v + 1)) : Nat) : Int) := by
              rw [hp, show v + 1 - (pc c0 v + 1) = v - pc c0 v from by omega, Nat.pow_succ, ← Int.natCast_mul]
              congr 1; ac_rfl
            have hw2 := prod_le (n := n) hG ho (pc_le c0 (v + 1)) (show v + 1 ≤ 10 by omega)
            rw [hBB] at hw2
            have nx := fun b hb => ihs (v + 1) ((v : Int) + 1) ((pc c0 v : Int) + 1) _ b (by omega) (by omega) (by rw [hp]; rfl) rfl hb
            rw [← hwn] at nx
            cases hag : ag z e c0 v with
            | false =>
              obtain ⟨r, r1, r2⟩ := nx false (by show false = (ag z e c0 v && _); rw [hag]; rfl)
              refine ⟨r, r1, Comes.step progOk ref14_Weights.p4 [] ?_ r2⟩
              simp only [EvOk, E.b, E.i, E.v, Env.ext, evL]
              simp only [D, l0, l1, l2, hb, q, hwn, and_true, true_and]
              omega
            | true =>
              obtain ⟨r, r1, r2⟩ := nx (leB (z : Int) v) (by
                show leB (z : Int) v = (ag z e c0 v && (if bit c0 v = 1 then decide (z ≤ v) else decide (v < z) || decide (z + e ≤ v)))
                rw [hag, q]
                simp only [Bool.true_and, if_true]
                unfold leB
                rw [decide_eq_decide]; omega)
              refine ⟨r, r1, Comes.step progOk ref14_Weights.p3 [] ?_ r2⟩
              simp only [EvOk, E.b, E.i, E.v, Env.ext, evL]
              simp only [D, Z, l0, l1, l2, hb, q, hwn, toI_int', and_true, true_and]
              omega
      obtain ⟨r, r1, r2⟩ := inner n 0 0 0 1 true (by omega) rfl rfl (by simp [pc]) rfl
      refine ⟨r, r1, Comes.step progOk ref14_Weights.p1 [] ?_ r2⟩
      simp only [EvOk, E.b, E.i, E.v, Env.ext, evL]
      simp only [D, l1, hsh]
      refine ⟨by omega, by omega, by omega, by omega⟩
  obtain ⟨r, r1, r2⟩ := outer N 0 0 (V.rep ((n : Int) + 1) (.int 0)) (by omega) rfl (by
    have := Ints.rep (n + 1) 0
    rw [show ((n : Int) + 1) = ((n + 1 : Nat) : Int) from by omega]
    rw [show cl 0 = List.replicate (n + 1) 0 from ?_]
    · exact this
    · simp only [cl, cntF, Nat.zero_mul]
      rw [List.map_const', List.length_range])
  refine ⟨r, ?_, Fn.of (C := ref14_Weights.K) ref14_Weights.b (Comes.step progOk ref14_Weights.p0 [] ?_ r2)⟩
  · rw [show wts G n o rows c e m = cl N from ?_]
    · exact r1
    · unfold wts
      refine List.map_congr_left fun j _ => ?_
      have hnum : cntF (sel z e n j) N = if e ≤ j ∧ j ≤ e + m then bin m (j - e) else 0 := by
        have := num_free z e m j
        unfold num at this
        rw [h1, hN] at this; exact this
      unfold wt
      simp only [hnum]
      split
      · unfold uw; ac_rfl
      · simp
  · simp only [EvOk, E.b, E.i, E.v, Env.ext, evL]
    simp only [l1, and_true, true_and]
    omega
end X
namespace X
open Go Go.Abs Go.Sym
set_option linter.unusedVariables false
set_option linter.unusedSimpArgs false

/-- Evidence that fits. -/
def fitE (C : Int) (rows : List (List Int)) (z e c : Int) : Prop := 0 ≤ z ∧ z ≤ C ∧ 0 ≤ e ∧ e ≤ C - z ∧ -1 ≤ c ∧ c < hd rows
instance (C : Int) (rows : List (List Int)) (z e c : Int) : Decidable (fitE C rows z e c) := by unfold fitE; infer_instance
def code (G C o : Int) (rows : List (List Int)) (z e c : Int) : Int := if okM G C o rows = true then (if fitE C rows z e c then 0 else 2) else 140
def zc : V := .list [.list [.int 0, .int 0, .int 0, .nil], .int 0, .int 0, .int 0]
theorem hd_len {R : V} {rows : List (List Int)} (tab : Tab R rows) (h0 : 0 < rows.length) : (R.get 0).len = (hd rows : Int) := by
  have := (tab.row 0 _ (List.getElem?_eq_getElem h0)).len
  rw [show ((0 : Nat) : Int) = 0 from rfl] at this
  rw [this]; unfold hd
  cases rows with
  | nil => simp at h0
  | cons a b => rfl
theorem okM_facts {G C o : Int} {rows : List (List Int)} (h : okM G C o rows = true) : 1 ≤ C ∧ C ≤ 10 ∧ 0 < rows.length := by
  unfold okM at h
  simp only [Bool.and_eq_true, decide_eq_true_eq] at h
  omega
theorem count_err {G C o : Int} {R : V} {rows : List (List Int)} (M : GMod G C o R rows) (z e c : Int) (hbad : ¬ (okM G C o rows = true ∧ fitE C rows z e c)) : Fn prog lift_count.f [gm G C o R, .int z, .int e, .int c] (.list [zc, .int (code G C o rows z e c)]) := by
  have hv := valid_dec M
  have hR := M.tab.lenI
  refine Fn.of (C := lift_count.K) lift_count.b ?_
  unfold code
  cases hok : okM G C o rows with
  | false =>
    rw [hok] at hv
    refine Comes.last progOk lift_count.p0 [.bool false] ?_ rfl
    simp only [EvOk, E.b, E.i, E.v, Env.ext, evL]; exact hv
  | true =>
    rw [hok] at hv
    obtain ⟨f1, f2, f3⟩ := okM_facts hok
    have hk := hd_len M.tab f3
    have hnf : ¬ fitE C rows z e c := fun q => hbad ⟨hok, q⟩
    rw [if_pos rfl, if_neg hnf]
    unfold fitE at hnf
    by_cases q1 : 0 ≤ z
    rotate_left
    · refine Comes.last progOk lift_count.p1 [.bool true] ?_ rfl
      simp only [EvOk, E.b, E.i, E.v, Env.ext, evL]; simp only [gm1, toI_int', and_true, true_and]; exact ⟨hv, by omega⟩
    by_cases q2 : 0 ≤ e
    rotate_left
    · refine Comes.last progOk lift_count.p2 [.bool true] ?_ rfl
      simp only [EvOk, E.b, E.i, E.v, Env.ext, evL]; simp only [gm1, toI_int', and_true, true_and]; exact ⟨hv, by omega⟩
    by_cases q3 : z ≤ C
    rotate_left
    · refine Comes.last progOk lift_count.p3 [.bool true] ?_ rfl
      simp only [EvOk, E.b, E.i, E.v, Env.ext, evL]; simp only [gm1, toI_int', and_true, true_and]; exact ⟨hv, by omega⟩
    by_cases q4 : e ≤ C - z
    rotate_left
    · refine Comes.last progOk lift_count.p4 [.bool true] ?_ rfl
      simp only [EvOk, E.b, E.i, E.v, Env.ext, evL]; simp only [gm1, toI_int', and_true, true_and]; exact ⟨hv, by omega⟩
    by_cases q5 : -1 ≤ c
    rotate_left
    · refine Comes.last progOk lift_count.p5 [.bool true] ?_ rfl
      simp only [EvOk, E.b, E.i, E.v, Env.ext, evL]; simp only [gm1, toI_int', and_true, true_and]; exact ⟨hv, by omega⟩
    · refine Comes.last progOk lift_count.p6 [.bool true] ?_ rfl
      simp only [EvOk, E.b, E.i, E.v, Env.ext, evL]; simp only [gm1, gm3, toI_int', hR, hk, and_true, true_and]; exact ⟨hv, by omega⟩
theorem Errors_spec {G C o : Int} {R : V} {rows : List (List Int)} (M : GMod G C o R rows) (z e c : Int) : Fn prog ref14_Errors.f [gm G C o R, .int z, .int e, .int c] (.int (code G C o rows z e c)) := by
  have hv := Right_dec M
  have hR := M.tab.lenI
  refine Fn.of (C := ref14_Errors.K) ref14_Errors.b ?_
  unfold code
  cases hok : okM G C o rows with
  | false =>
    rw [hok] at hv
    refine Comes.last progOk ref14_Errors.p0 [.bool false] ?_ rfl
    simp only [EvOk, E.b, E.i, E.v, Env.ext, evL]; exact hv
  | true =>
    rw [hok] at hv
    obtain ⟨f1, f2, f3⟩ := okM_facts hok
    have hk := hd_len M.tab f3
    rw [if_pos rfl]
    by_cases hf : fitE C rows z e c
    · rw [if_pos hf]
      unfold fitE at hf
      refine Comes.last progOk ref14_Errors.p7 [.bool true] ?_ rfl
      simp only [EvOk, E.b, E.i, E.v, Env.ext, evL]; simp only [gm1, gm3, toI_int', hR, hk, and_true, true_and]; exact ⟨hv, by omega⟩
    rw [if_neg hf]
    unfold fitE at hf
    by_cases q1 : 0 ≤ z
    rotate_left
    · refine Comes.last progOk ref14_Errors.p1 [.bool true] ?_ rfl
      simp only [EvOk, E.b, E.i, E.v, Env.ext, evL]; simp only [gm1, toI_int', and_true, true_and]; exact ⟨hv, by omega⟩
    by_cases q3 : z ≤ C
    rotate_left
    · refine Comes.last progOk ref14_Errors.p2 [.bool true] ?_ rfl
      simp only [EvOk, E.b, E.i, E.v, Env.ext, evL]; simp only [gm1, toI_int', and_true, true_and]; exact ⟨hv, by omega⟩
    by_cases q2 : 0 ≤ e
    rotate_left
    · refine Comes.last progOk ref14_Errors.p3 [.bool true] ?_ rfl
      simp only [EvOk, E.b, E.i, E.v, Env.ext, evL]; simp only [gm1, toI_int', and_true, true_and]; exact ⟨hv, by omega⟩
    by_cases q4 : e ≤ C - z
    rotate_left
    · refine Comes.last progOk ref14_Errors.p4 [.bool true] ?_ rfl
      simp only [EvOk, E.b, E.i, E.v, Env.ext, evL]; simp only [gm1, toI_int', and_true, true_and]; exact ⟨hv, by omega⟩
    by_cases q5 : -1 ≤ c
    rotate_left
    · refine Comes.last progOk ref14_Errors.p5 [.bool true] ?_ rfl
      simp only [EvOk, E.b, E.i, E.v, Env.ext, evL]; simp only [gm1, toI_int', and_true, true_and]; exact ⟨hv, by omega⟩
    · refine Comes.last progOk ref14_Errors.p6 [.bool true] ?_ rfl
      simp only [EvOk, E.b, E.i, E.v, Env.ext, evL]; simp only [gm1, gm3, toI_int', hR, hk, and_true, true_and]; exact ⟨hv, by omega⟩

theorem Total_spec {a : V} {l : List Nat} (ha : Ints a l) (hl : l.length ≤ 1000000000) (hs : l.sum ≤ big) : Fn prog ref14_Total.f [a] (.int (l.sum : Nat)) := by
  have hb : big ≤ 9000000000000000000 := by decide
  have hal := ha.len
  have loop : ∀ (t i : Nat) (s' i' : Int), t + i = l.length → i' = i → s' = ((l.take i).sum : Nat) → Comes ref14_Total.K ref14_Total.f ref14_Total.s1 ⟨[s', i'], [], [a]⟩ (.int (l.sum : Nat)) := by
    intro t
    induction t with
    | zero =>
      intro i s' i' ht hi hs'
      have : i = l.length := by omega
      subst this hi hs'
      rw [List.take_length]
      refine Comes.last progOk ref14_Total.p2 [] ?_ rfl
      simp only [EvOk, E.b, E.i, E.v, Env.ext, evL]; simp only [hal, and_true, true_and]; omega
    | succ t ih =>
      intro i s' i' ht hi hs'
      subst hi hs'
      obtain ⟨d, hd⟩ : ∃ e, l[i]? = some e := ⟨_, List.getElem?_eq_getElem (by omega)⟩
      have gd := ha.get hd
      have h1 := sum_take l i d hd
      have h2 := take_sum_le l (i + 1)
      have nx := ih (i + 1) (((l.take i).sum : Nat) + (a.get (i : Int)).toI) ((i : Int) + 1) (by omega) (by omega) (by rw [gd, h1]; omega)
      refine Comes.step progOk ref14_Total.p1 [] ?_ nx
      simp only [EvOk, E.b, E.i, E.v, Env.ext, evL]; simp only [hal, gd, and_true, true_and]; omega
  exact Fn.of (C := ref14_Total.K) ref14_Total.b (Comes.step progOk ref14_Total.p0 [] trivial (loop l.length 0 0 0 (by omega) rfl rfl))
theorem snoc_list (x y : V) : x.snoc y = .list (x.els ++ [y]) := rfl
theorem SharedR_spec {a : V} {l : List Nat} (ha : Ints a l) (hl : l.length ≤ 1000000000) (hs : l.sum ≤ big) (h0 : 0 < l.sum) : Fn prog ref14_Shared.f [a] (.list (l.map fun x => can x l.sum)) := by
  have hal := ha.len
  have hT := Total_spec ha hl hs
  have hpos : 0 < l.length := by
    cases l with
    | nil => simp at h0
    | cons a b => simp
  have loop : ∀ (t i : Nat) (i' : Int) (out : V), t + i = l.length → i' = i → out.els = (l.take i).map (fun x => can x l.sum) → (0 < i → ∃ q, out = .list q) → Comes ref14_Shared.K ref14_Shared.f ref14_Shared.s1 ⟨[i'], [], [a, out]⟩ (.list (l.map fun x => can x l.sum)) := by
    intro t
    induction t with
    | zero =>
      intro i i' out ht hi ho hq
      have : i = l.length := by omega
      subst this hi
      obtain ⟨q, rfl⟩ := hq hpos
      rw [List.take_length] at ho
      have : q = l.map fun x => can x l.sum := ho
      subst this
      refine Comes.last progOk ref14_Shared.p2 [] ?_ rfl
      simp only [EvOk, E.b, E.i, E.v, Env.ext, evL]; simp only [hal, and_true, true_and]; omega
    | succ t ih =>
      intro i i' out ht hi ho hq
      subst hi
      obtain ⟨d, hd⟩ : ∃ e, l[i]? = some e := ⟨_, List.getElem?_eq_getElem (by omega)⟩
      have gd := ha.get hd
      have hdl : d ≤ l.sum := le_sum (List.mem_of_getElem? hd)
      have hO := of_can (a := d) (b := l.sum) (by omega) hs h0
      have hol : out.len = (i : Int) := by simp [V.len, ho]; omega
      have nx := ih (i + 1) ((i : Int) + 1) (out.snoc (can d l.sum)) (by omega) (by omega) (by
        rw [snoc_list]
        show out.els ++ [can d l.sum] = _
        rw [ho, List.take_add_one, hd]; simp) (fun _ => ⟨_, rfl⟩)
      refine Comes.step progOk ref14_Shared.p1 [.int (l.sum : Nat), can d l.sum] ?_ nx
      simp only [EvOk, E.b, E.i, E.v, Env.ext, evL]; simp only [hal, gd, hol, and_true, true_and]
      exact ⟨by omega, by omega, hT, hO, by omega, by omega⟩
  exact Fn.of (C := ref14_Shared.K) ref14_Shared.b (Comes.step progOk ref14_Shared.p0 [] trivial (loop l.length 0 0 .nil (by omega) rfl rfl (by omega)))

theorem hbigS : 11 * (252 * 20 ^ 10 * 20) ≤ big := by decide
/-- The parts that the evidence leaves. -/
theorem fit_parts {n : Nat} {rows : List (List Int)} {z e c : Int} (h : fitE (n : Int) rows z e c) : ∃ z' e' m : Nat, z = z' ∧ e = e' ∧ z' + e' + m = n := by
  unfold fitE at h
  exact ⟨z.toNat, e.toNat, n - z.toNat - e.toNat, by omega, by omega, by omega⟩
end X
namespace X
open Go Go.Abs Go.Sym
set_option linter.unusedVariables false
set_option linter.unusedSimpArgs false

theorem els_list (l : List V) : (V.list l).els = l := rfl
theorem app_nil_els (x : V) : (V.app .nil x).els = x.els := by
  unfold V.app
  split
  · rename_i h; rw [h]; rfl
  · rfl
theorem sub_els (x : V) (i j : Int) : (x.sub i j).els = (x.els.take j.toNat).drop i.toNat := by
  unfold V.sub
  split
  · simp [V.els]
  · rfl
theorem get_els {x : V} {i : Nat} (h : i < x.els.length) : x.get (i : Int) = x.els[i] := by simp [V.get, h]
theorem Zs.copy {x : V} {l : List Int} (h : Zs x l) : Zs (V.app .nil x) l := by unfold Zs at *; rw [app_nil_els, h]
theorem Zs.sub {x : V} {l : List Int} (h : Zs x l) (j : Int) : Zs (x.sub 0 j) (l.take j.toNat) := by
  unfold Zs at *; rw [sub_els, h]; simp [List.map_take]
theorem Zs.set {x : V} {l : List Int} (h : Zs x l) (i : Nat) (w : Int) : Zs (x.set (i : Int) (.int w)) (l.set i w) := by
  unfold Zs at *; simp [V.set, els_list, h, List.map_set]
theorem Zs.snoc {x : V} {l : List Int} (h : Zs x l) (w : Int) : Zs (x.snoc (.int w)) (l ++ [w]) := by
  unfold Zs at *; simp [V.snoc, els_list, h]
/-- Rows, one by one. -/
def TabL : List V → List (List Int) → Prop
  | [], [] => True
  | x :: xs, r :: rs => Zs x r ∧ TabL xs rs
  | _, _ => False
theorem TabL.get : ∀ {xs : List V} {rs : List (List Int)}, TabL xs rs → xs.length = rs.length ∧ ∀ (j : Nat) (r : List Int), rs[j]? = some r → ∃ x, xs[j]? = some x ∧ Zs x r
  | [], [], _ => ⟨rfl, fun j r h => by simp at h⟩
  | x :: xs, r :: rs, ⟨h1, h2⟩ => by
    obtain ⟨k1, k2⟩ := TabL.get h2
    refine ⟨by simp [k1], fun j r' h => ?_⟩
    cases j with
    | zero => simp at h; subst h; exact ⟨x, rfl, h1⟩
    | succ j => simpa using k2 j r' (by simpa using h)
  | [], _ :: _, h => h.elim
  | _ :: _, [], h => h.elim
theorem TabL.of : ∀ {xs : List V} {rs : List (List Int)}, xs.length = rs.length → (∀ (j : Nat) (r : List Int), rs[j]? = some r → ∃ x, xs[j]? = some x ∧ Zs x r) → TabL xs rs
  | [], [], _, _ => trivial
  | x :: xs, r :: rs, hl, h => by
    refine ⟨?_, TabL.of (by simpa using hl) fun j r' hj => by simpa using h (j + 1) r' (by simpa using hj)⟩
    obtain ⟨y, e, k⟩ := h 0 r rfl
    simp at e; subst e; exact k
  | [], _ :: _, hl, _ => by simp at hl
  | _ :: _, [], hl, _ => by simp at hl
theorem tab_iff {R : V} {rows : List (List Int)} : Tab R rows ↔ TabL R.els rows := by
  constructor
  · intro h
    refine TabL.of h.len fun j r hj => ?_
    have hlt : j < R.els.length := by rw [h.len]; exact (List.getElem?_eq_some_iff.1 hj).1
    exact ⟨R.els[j], List.getElem?_eq_getElem hlt, by rw [← get_els hlt]; exact h.row j r hj⟩
  · intro h
    obtain ⟨h1, h2⟩ := h.get
    refine ⟨h1, fun j r hj => ?_⟩
    obtain ⟨x, e, k⟩ := h2 j r hj
    have hlt := (List.getElem?_eq_some_iff.1 e).1
    rw [get_els hlt]
    have : R.els[j] = x := by rw [List.getElem?_eq_getElem hlt] at e; simpa using e
    rw [this]; exact k
theorem TabL.snoc : ∀ {xs : List V} {rs : List (List Int)} {x : V} {r : List Int}, TabL xs rs → Zs x r → TabL (xs ++ [x]) (rs ++ [r])
  | [], [], _, _, _, h => ⟨h, trivial⟩
  | _ :: _, _ :: _, _, _, ⟨h1, h2⟩, h => ⟨h1, TabL.snoc h2 h⟩
  | [], _ :: _, _, _, h, _ => h.elim
  | _ :: _, [], _, _, h, _ => h.elim
theorem TabL.set : ∀ {xs : List V} {rs : List (List Int)} {x : V} {r : List Int} (j : Nat), TabL xs rs → Zs x r → TabL (xs.set j x) (rs.set j r)
  | [], [], _, _, j, _, h => trivial
  | _ :: _, _ :: _, _, _, 0, ⟨h1, h2⟩, h => ⟨h, h2⟩
  | _ :: _, _ :: _, _, _, j + 1, ⟨h1, h2⟩, h => ⟨h1, TabL.set j h2 h⟩
  | [], _ :: _, _, _, _, h, _ => h.elim
  | _ :: _, [], _, _, _, h, _ => h.elim
theorem TabL.drop : ∀ {xs : List V} {rs : List (List Int)} (j : Nat), TabL xs rs → TabL (xs.drop j) (rs.drop j)
  | _, _, 0, h => h
  | [], [], _ + 1, _ => trivial
  | _ :: _, _ :: _, j + 1, ⟨_, h2⟩ => TabL.drop j h2
  | [], _ :: _, _ + 1, h => h.elim
  | _ :: _, [], _ + 1, h => h.elim
theorem TabL.take : ∀ {xs : List V} {rs : List (List Int)} (j : Nat), TabL xs rs → TabL (xs.take j) (rs.take j)
  | _, _, 0, h => by simp [TabL]
  | [], [], _ + 1, _ => trivial
  | _ :: _, _ :: _, j + 1, ⟨h1, h2⟩ => ⟨h1, TabL.take j h2⟩
  | [], _ :: _, _ + 1, h => h.elim
  | _ :: _, [], _ + 1, h => h.elim
theorem Tab.snoc {R x : V} {rows : List (List Int)} {r : List Int} (h : Tab R rows) (k : Zs x r) : Tab (R.snoc x) (rows ++ [r]) := tab_iff.2 ((tab_iff.1 h).snoc k)
theorem Tab.set {R x : V} {rows : List (List Int)} {r : List Int} (h : Tab R rows) (j : Nat) (k : Zs x r) : Tab (R.set (j : Int) x) (rows.set j r) := by
  refine tab_iff.2 ?_
  have := (tab_iff.1 h).set j k
  simpa [V.set, els_list] using this
theorem Tab.sub {R : V} {rows : List (List Int)} (h : Tab R rows) (i j : Int) : Tab (R.sub i j) ((rows.take j.toNat).drop i.toNat) := by
  refine tab_iff.2 ?_
  rw [sub_els]
  exact ((tab_iff.1 h).take _).drop _
theorem tab_nil : Tab .nil [] := tab_iff.2 trivial

theorem LMod.gmod {R : V} {G n o k : Nat} {rows : List (List Nat)} (M : LMod R G n o k rows) : GMod G n o R (rows.map fun r => r.map Int.ofNat) := by
  have hn := M.n2
  refine ⟨⟨by rw [M.rlen, List.length_map, M.len], fun j r hj => ?_⟩, by rw [List.length_map, M.len]; omega, fun r hr => ?_, by omega, by omega⟩
  · simp only [List.getElem?_map, Option.map_eq_some_iff] at hj
    obtain ⟨r0, hj, rfl⟩ := hj
    exact Ints.zs (M.row j r0 hj).1
  · obtain ⟨r0, h0, rfl⟩ := List.mem_map.1 hr
    obtain ⟨j, hj⟩ := List.getElem?_of_mem h0
    have := (M.row j r0 hj).2.1
    have := M.k2
    rw [List.length_map]; omega

theorem tmod_nat (a b : Nat) : ((a : Int)).tmod (b : Int) = ((a % b : Nat) : Int) := by rw [Int.tmod_eq_emod_of_nonneg (Int.natCast_nonneg _)]; rfl
theorem set_rows {rows : List (List Int)} {j : Nat} {r : List Int} (h : ∀ r ∈ rows, r.length ≤ 4) (hr : r.length ≤ 6) : ∀ x ∈ rows.set j r, x.length ≤ 6 := by
  intro x hx
  rcases List.mem_or_eq_of_mem_set hx with q | q
  · have := h x q; omega
  · subst q; exact hr
theorem BendOf_spec {R : V} {G n o k : Nat} {rows : List (List Nat)} (M : LMod R G n o k rows) {w j a : Nat} {N : Int} (hj : j ≤ 255) (ha : a ≤ 255) (hN1 : -9223372036854775808 ≤ N) (hN2 : N ≤ 9223372036854775807) :
    ∃ G' C' o' R' rows', GMod G' C' o' R' rows' ∧ Fn prog BendOf.f [.list [.int w, .int j, .int a, .int N], lv G n o R] (gm G' C' o' R') := by
  have GM := M.gmod
  have hn := M.n2
  have hk := M.k2
  have hk1 := M.k1
  generalize hzr : (rows.map fun r => r.map Int.ofNat) = zr at GM
  have zl : zr.length = n + 1 := by rw [← hzr, List.length_map, M.len]
  have z4 : ∀ r ∈ zr, r.length ≤ 4 := by
    intro r hr
    rw [← hzr] at hr
    obtain ⟨r0, h0, rfl⟩ := List.mem_map.1 hr
    obtain ⟨i, hi⟩ := List.getElem?_of_mem h0
    have := (M.row i r0 hi).2.1
    rw [List.length_map]; omega
  have z2 : ∀ r ∈ zr, 2 ≤ r.length := by
    intro r hr
    rw [← hzr] at hr
    obtain ⟨r0, h0, rfl⟩ := List.mem_map.1 hr
    obtain ⟨i, hi⟩ := List.getElem?_of_mem h0
    have := (M.row i r0 hi).2.1
    rw [List.length_map]; omega
  have tab := GM.tab
  have hR := tab.lenI
  have l3 : (lv G n o R).get 3 = R := rfl
  generalize hB : V.list [.int w, .int j, .int a, .int N] = B
  have b0 : (B.get 0).toI = w := by rw [← hB]; rfl
  have b1 : (B.get 1).toI = j := by rw [← hB]; rfl
  have b2 : (B.get 2).toI = a := by rw [← hB]; rfl
  have b3 : (B.get 3).toI = N := by rw [← hB]; rfl
  have loop : ∀ (t i : Nat) (i' : Int) (out : V), t + i = n + 1 → i' = i → Tab out (zr.take i) → ∃ G' C' o' R' rows', GMod G' C' o' R' rows' ∧ Comes BendOf.K BendOf.f BendOf.s1 ⟨[i'], [], [B, lv G n o R, out]⟩ (gm G' C' o' R') := by
    intro t
    induction t with
    | zero =>
      intro i i' out ht hi hout
      have : i = n + 1 := by omega
      subst this hi
      rw [List.take_of_length_le (by omega)] at hout
      have ho := hout.lenI
      rw [zl] at ho
      have hw7 : ((w : Int)).tmod 7 = ((w % 7 : Nat) : Int) := tmod_nat w 7
      have hlt : w % 7 < 7 := Nat.mod_lt _ (by omega)
      have hjr : ((j : Int)).tmod out.len = ((j % (n + 1) : Nat) : Int) := by rw [ho]; exact tmod_nat j (n + 1)
      have hjl : j % (n + 1) < n + 1 := Nat.mod_lt _ (by omega)
      obtain ⟨rj, hrj⟩ : ∃ r, zr[j % (n + 1)]? = some r := ⟨_, List.getElem?_eq_getElem (by omega)⟩
      have hz := hout.row _ _ hrj
      have hzl := hz.len
      have r4 := z4 rj (List.mem_of_getElem? hrj)
      have r2 := z2 rj (List.mem_of_getElem? hrj)
      have mk : ∀ {R' : V} {rows' : List (List Int)} (C' : Int), Tab R' rows' → rows'.length ≤ 12 → (∀ r ∈ rows', r.length ≤ 6) → -9223372036854775808 ≤ C' → C' ≤ 9223372036854775807 → ∀ (G' o' : Int), GMod G' C' o' R' rows' := fun C' a b c d e _ _ => ⟨a, b, c, d, e⟩
      have z6 : ∀ r ∈ zr, r.length ≤ 6 := fun r hr => by have := z4 r hr; omega
      by_cases w0 : w % 7 = 0
      · refine ⟨N, n, o, out, zr, mk _ hout (by omega) z6 (by omega) (by omega) _ _, Comes.last progOk BendOf.p2 [] ?_ (by simp only [E.i, E.v, Env.ext, List.append_nil, List.getD_cons_zero, List.getD_cons_succ, b3]; rfl)⟩
        simp only [EvOk, E.b, E.i, E.v, Env.ext, evL]; simp only [l3, hR, zl, b0, b1, b2, b3, hw7, ho, and_true, true_and]; omega
      by_cases w1 : w % 7 = 1
      · refine ⟨G, N, o, out, zr, mk _ hout (by omega) z6 (by omega) (by omega) _ _, Comes.last progOk BendOf.p3 [] ?_ (by simp only [E.i, E.v, Env.ext, List.append_nil, List.getD_cons_zero, List.getD_cons_succ, b3]; rfl)⟩
        simp only [EvOk, E.b, E.i, E.v, Env.ext, evL]; simp only [l3, hR, zl, b0, b1, b2, b3, hw7, ho, and_true, true_and]; omega
      by_cases w2 : w % 7 = 2
      · refine ⟨G, n, N, out, zr, mk _ hout (by omega) z6 (by omega) (by omega) _ _, Comes.last progOk BendOf.p4 [] ?_ (by simp only [E.i, E.v, Env.ext, List.append_nil, List.getD_cons_zero, List.getD_cons_succ, b3]; rfl)⟩
        simp only [EvOk, E.b, E.i, E.v, Env.ext, evL]; simp only [l3, hR, zl, b0, b1, b2, b3, hw7, ho, and_true, true_and]; omega
      by_cases w3 : w % 7 = 3
      · have har : ((a : Int)).tmod (out.get ((j % (n + 1) : Nat) : Int)).len = ((a % rj.length : Nat) : Int) := by rw [hzl]; exact tmod_nat a _
        have hal : a % rj.length < rj.length := Nat.mod_lt _ (by omega)
        refine ⟨G, n, o, _, _, mk _ (hout.set (j % (n + 1)) (hz.set (a % rj.length) N)) (by rw [List.length_set]; omega) (set_rows z4 (by rw [List.length_set]; omega)) (by omega) (by omega) _ _, Comes.last progOk BendOf.p5 [] ?_ (by simp only [E.i, E.v, Env.ext, List.append_nil, List.getD_cons_zero, List.getD_cons_succ, b1, b2, b3, hjr, har]; rfl)⟩
        simp only [EvOk, E.b, E.i, E.v, Env.ext, evL]; simp only [l3, hR, zl, b0, b1, b2, b3, hw7, hjr, har, hzl, ho, tmod_nat, and_true, true_and]; omega
      by_cases w4 : w % 7 = 4
      · refine ⟨G, n, o, _, _, mk _ (hout.sub 1 out.len) (by rw [List.length_drop, List.length_take]; omega) (fun r hr => z6 r (List.mem_of_mem_take (List.mem_of_mem_drop hr))) (by omega) (by omega) _ _, Comes.last progOk BendOf.p6 [] ?_ rfl⟩
        simp only [EvOk, E.b, E.i, E.v, Env.ext, evL]; simp only [l3, hR, zl, b0, b1, b2, b3, hw7, ho, and_true, true_and]; omega
      by_cases w5 : w % 7 = 5
      · refine ⟨G, n, o, _, _, mk _ (hout.set (j % (n + 1)) (hz.snoc 0)) (by rw [List.length_set]; omega) (set_rows z4 (by simp; omega)) (by omega) (by omega) _ _, Comes.last progOk BendOf.p7 [] ?_ (by simp only [E.i, E.v, Env.ext, List.append_nil, List.getD_cons_zero, List.getD_cons_succ, b1, b2, b3, hjr]; rfl)⟩
        simp only [EvOk, E.b, E.i, E.v, Env.ext, evL]; simp only [l3, hR, zl, b0, b1, b2, b3, hw7, hjr, hzl, ho, tmod_nat, and_true, true_and]; omega
      · refine ⟨G, n, o, _, _, mk _ ((hout.set (j % (n + 1)) hz).set (j % (n + 1)) (hz.sub 1)) (by rw [List.length_set, List.length_set]; omega) ?_ (by omega) (by omega) _ _, Comes.last progOk BendOf.p8 [] ?_ (by simp only [E.i, E.v, Env.ext, List.append_nil, List.getD_cons_zero, List.getD_cons_succ, b1, b2, b3, hjr]; rfl)⟩
        · intro x hx
          rcases List.mem_or_eq_of_mem_set hx with q | q
          · rcases List.mem_or_eq_of_mem_set q with q | q
            · exact z6 x q
            · subst q; omega
          · subst q; rw [List.length_take]; omega
        · simp only [EvOk, E.b, E.i, E.v, Env.ext, evL]; simp only [l3, hR, zl, b0, b1, b2, b3, hw7, hjr, hzl, ho, tmod_nat, and_true, true_and]; omega
    | succ t ih =>
      intro i i' out ht hi hout
      subst hi
      have ho := hout.lenI
      rw [List.length_take, zl, Nat.min_eq_left (by omega)] at ho
      obtain ⟨r, hr⟩ : ∃ r, zr[i]? = some r := ⟨_, List.getElem?_eq_getElem (by omega)⟩
      have hz := tab.row i r hr
      have hzl := hz.len
      have r4 := z4 r (List.mem_of_getElem? hr)
      obtain ⟨G', C', o', R', rows', q1, q2⟩ := ih (i + 1) ((i : Int) + 1) (out.snoc (V.app .nil (R.get (i : Int)))) (by omega) (by omega) (by rw [List.take_add_one, hr]; exact hout.snoc hz.copy)
      refine ⟨G', C', o', R', rows', q1, Comes.step progOk BendOf.p1 [] ?_ q2⟩
      simp only [EvOk, E.b, E.i, E.v, Env.ext, evL]; simp only [l3, hR, zl, hzl, ho, tmod_nat, and_true, true_and]; omega
  obtain ⟨G', C', o', R', rows', q1, q2⟩ := loop (n + 1) 0 0 .nil (by omega) rfl tab_nil
  exact ⟨G', C', o', R', rows', q1, Fn.of (C := BendOf.K) BendOf.b (Comes.step progOk BendOf.p0 [] trivial q2)⟩

theorem few_spec {G C o : Int} {R : V} {rows : List (List Int)} (tab : Tab R rows) (hC1 : -9223372036854775808 ≤ C) (hC2 : C ≤ 9223372036854775807) : ∃ R' rows', GMod G C o R' rows' ∧ Fn prog few.f [gm G C o R] (gm G C o R') := by
  have hR := tab.lenI
  have hmin : minI R.len 12 = ((min rows.length 12 : Nat) : Int) := by
    rw [hR]; unfold minI; split <;> omega
  have hmin2 : minI (rows.length : Int) 12 = ((min rows.length 12 : Nat) : Int) := by rw [← hR]; exact hmin
  have hsub := tab.sub 0 (minI R.len 12)
  rw [hmin] at hsub
  simp only [Int.toNat_natCast, Int.toNat_zero, List.drop_zero] at hsub
  have hsl := hsub.lenI
  rw [List.length_take] at hsl
  have hm : min (min rows.length 12) rows.length = min rows.length 12 := by omega
  rw [hm] at hsl
  generalize hS : R.sub 0 ((min rows.length 12 : Nat) : Int) = S at *
  generalize hrr : rows.take (min rows.length 12) = rr at *
  have hrl : rr.length = min rows.length 12 := by rw [← hrr, List.length_take]; omega
  have loop : ∀ (t i : Nat) (i' : Int) (out : V) (os : List (List Int)), t + i = rr.length → i' = i → Tab out os → os.length = i → (∀ r ∈ os, r.length ≤ 6) → ∃ R' rows', GMod G C o R' rows' ∧ Comes few.K few.f few.s1 ⟨[i'], [], [gm G C o R, out]⟩ (gm G C o R') := by
    intro t
    induction t with
    | zero =>
      intro i i' out os ht hi hout hl h6
      subst hi
      refine ⟨out, os, ⟨hout, by omega, h6, hC1, hC2⟩, Comes.last progOk few.p2 [] ?_ rfl⟩
      simp only [EvOk, E.b, E.i, E.v, Env.ext, evL]; simp only [gm3, hmin, hS, hsl, and_true, true_and]; omega
    | succ t ih =>
      intro i i' out os ht hi hout hl h6
      subst hi
      obtain ⟨r, hr⟩ : ∃ r, rr[i]? = some r := ⟨_, List.getElem?_eq_getElem (by omega)⟩
      have hz := hsub.row i r hr
      have hzl := hz.len
      have hol := hout.lenI
      have hm6 : minI ((S.get (i : Int)).len) 6 = ((min r.length 6 : Nat) : Int) := by
        rw [hzl]; unfold minI; split <;> omega
      have hm62 : minI (r.length : Int) 6 = ((min r.length 6 : Nat) : Int) := by rw [← hzl]; exact hm6
      have hz2 := hz.sub ((min r.length 6 : Nat) : Int)
      obtain ⟨R', rows', q1, q2⟩ := ih (i + 1) ((i : Int) + 1) (out.snoc ((S.get (i : Int)).sub 0 ((min r.length 6 : Nat) : Int))) _ (by omega) (by omega) (hout.snoc hz2) (by simp [hl]) (by
        intro x hx
        rcases List.mem_append.1 hx with q | q
        · exact h6 x q
        · simp at q; subst q; rw [List.length_take]; omega)
      rw [← hm6, ← hS, ← hmin] at q2
      refine ⟨R', rows', q1, Comes.step progOk few.p1 [] ?_ q2⟩
      simp only [EvOk, E.b, E.i, E.v, Env.ext, evL]; simp only [gm3, hmin, hS, hsl, hm6, hm62, hzl, hol, and_true, true_and]; omega
  obtain ⟨R', rows', q1, q2⟩ := loop rr.length 0 0 .nil [] (by omega) rfl tab_nil rfl (by simp)
  refine ⟨R', rows', q1, Fn.of (C := few.K) few.b (Comes.step progOk few.p0 [] ?_ q2)⟩
  simp only [EvOk, E.b, E.i, E.v, Env.ext, evL]; simp only [gm3, hmin, hmin2, hR, and_true, true_and]; omega
theorem equalQ_refl (a : V) (h : a.len ≤ 9223372036854775807) : Fn prog equalQ.f [a, a] (.bool true) := by
  have loop : ∀ (t i : Nat) (i' : Int), ((t + i : Nat) : Int) = a.len → i' = i → Comes equalQ.K equalQ.f equalQ.s1 ⟨[i'], [], [a, a]⟩ (.bool true) := by
    intro t
    induction t with
    | zero =>
      intro i i' ht hi
      subst hi
      refine Comes.last progOk equalQ.p4 [] ?_ rfl
      simp only [EvOk, E.b, E.i, E.v, Env.ext, evL]; omega
    | succ t ih =>
      intro i i' ht hi
      subst hi
      refine Comes.step progOk equalQ.p3 [] ?_ (ih (i + 1) ((i : Int) + 1) (by omega) (by omega))
      simp only [EvOk, E.b, E.i, E.v, Env.ext, evL]; omega
  refine Fn.of (C := equalQ.K) equalQ.b (Comes.step progOk equalQ.p1 [] ?_ (loop a.els.length 0 0 (by simp [V.len]) rfl))
  simp only [EvOk, E.b, E.i, E.v, Env.ext, evL]
end X
