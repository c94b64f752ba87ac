/- Texts of the claim: Lift14, Lift15, Lift19, Lift20, WTt, Par. -/
import Derived.Test.YtildjgdhdcoojaaZ11
import Derived.Test.YtildjgdhdcoojaaZ13
import Derived.Test.YtildjgdhdcoojaaZ10
import Derived.Test.YtildjgdhdcoojaaRows
import Derived.WalkKit
namespace X
open Go Go.Abs Go.Sym
set_option linter.unusedVariables false
set_option linter.unusedSimpArgs false

end X
namespace X
open Go Go.Abs Go.Sym
set_option linter.unusedVariables false
set_option linter.unusedSimpArgs false

def qer : V → V
  | .nil => .list [.nil, .int 7]
  | q => .list [q, .int 0]
theorem qer_ne {q : V} (h : q ≠ .nil) : qer q = .list [q, .int 0] := by
  cases q <;> first | rfl | exact absurd rfl h
theorem row0_len {R : V} {G n o k : Nat} {rows : List (List Nat)} (M : LMod R G n o k rows) : (R.get 0).len = (k : Int) := by
  obtain ⟨r, hr⟩ : ∃ r, rows[0]? = some r := ⟨_, List.getElem?_eq_getElem (by have := M.len; omega)⟩
  have := (M.row 0 r hr).1.len
  have hk := (M.row 0 r hr).2.1
  rw [show ((0 : Nat) : Int) = 0 from rfl] at this
  rw [this, hk]
theorem Child_lift {R : V} {g n p k : Nat} {rowsN : List (List Nat)} (L : LMod R g n p k rowsN) {z e m : Nat} (hzem : z + e + m = n) : (((List.range k).map (fun x : Nat => (wts g n p rowsN (x : Int) e m).sum)).sum ≤ big) ∧ ∃ r, Ints r ((List.range k).map (fun x : Nat => (wts g n p rowsN (x : Int) e m).sum)) ∧ ∀ q, Fn prog lift_shared.f [r] q → Fn prog lift_Child.f [lv g n p R, .int z, .int e] (qer q) := by
  have k1 := L.k1
  have k2 := L.k2
  have hn2 := L.n2
  have hcnt := count_spec L (z := z) (e := e) (c := -1) (by omega) (by omega) (by omega)
  have l3 : (lv g n p R).get 3 = R := rfl
  have hR : R.len = (n + 1 : Int) := by simp [V.len, L.rlen]
  have h0l := row0_len L
  have cb : 4 * (11 * (252 * 20 ^ 10 * 20)) ≤ big := by decide
  have hbb : big ≤ 9000000000000000000 := by decide
  -- the weights of the child's values
  generalize hcs : (List.range k).map (fun x : Nat => (wts g n p rowsN (x : Int) e m).sum) = cs
  have hcl : cs.length = k := by rw [← hcs]; simp
  have hci : ∀ x, x < k → cs[x]? = some (wts g n p rowsN x e m).sum := by intro x hx; rw [← hcs]; simp [hx]
  have hle : ∀ x, x ∈ cs → x ≤ 11 * (252 * 20 ^ 10 * 20) := by
    intro x hx
    rw [← hcs] at hx
    obtain ⟨y, hy, rfl⟩ := List.mem_map.1 hx
    exact wts_sum_le L y (e := e) (m := m) (by omega)
  have sum_le : ∀ (l : List Nat) (B : Nat), (∀ x ∈ l, x ≤ B) → l.sum ≤ l.length * B := by
    intro l B
    induction l with
    | nil => intro _; simp
    | cons a l ih =>
      intro h
      have := ih fun x hx => h x (by simp [hx])
      have := h a (by simp)
      simp only [List.sum_cons, List.length_cons, Nat.add_mul, Nat.one_mul]
      omega
  have hcs2 : cs.sum ≤ big := by
    have := sum_le cs _ hle
    have : cs.length * (11 * (252 * 20 ^ 10 * 20)) ≤ 4 * (11 * (252 * 20 ^ 10 * 20)) := Nat.mul_le_mul_right _ (by omega)
    omega
  refine ⟨hcs2, ?_⟩
  have loop : ∀ (t x : Nat) (x' : Int) (acc : V), t + x = k → x' = x → Ints acc (cs.take x) → ∃ r, Ints r cs ∧ ∀ q, Fn prog lift_shared.f [r] q → Comes lift_Child.K lift_Child.f lift_Child.s1 ⟨[x'], [], [lv g n p R, .int z, .int e, .list [cv (lv g n p R) z e (-1), .int 0], acc]⟩ (qer q) := by
    intro t
    induction t with
    | zero =>
      intro x x' acc ht hx ha
      have : x = cs.length := by omega
      subst hx this
      rw [List.take_length] at ha
      refine ⟨acc, ha, fun q hq => ?_⟩
      by_cases hn : q = .nil
      · subst hn
        refine Comes.last progOk lift_Child.p3 [.nil] ?_ rfl
        simp only [EvOk, E.b, E.i, E.v, Env.ext, evL]
        rw [l3, h0l]
        exact ⟨by omega, hq, rfl⟩
      · rw [qer_ne hn]
        refine Comes.last progOk lift_Child.p4 [q] ?_ rfl
        simp only [EvOk, E.b, E.i, E.v, Env.ext, evL]
        rw [l3, h0l]
        refine ⟨by omega, hq, ?_⟩
        cases q <;> first | rfl | exact absurd rfl hn
    | succ t ih =>
      intro x x' acc ht hx ha
      subst hx
      have hal := ha.len
      rw [List.length_take, hcl, Nat.min_eq_left (by omega)] at hal
      obtain ⟨w, w1, w2⟩ := weights_spec L (z := z) (e := e) (m := m) (c := (x : Int)) hzem (by omega)
      have wl := w1.len
      have hl := wts_len g n p rowsN x e m
      have hSx := wts_sum_le L x (e := e) (m := m) (by omega)
      obtain ⟨r, hr, nx⟩ := ih (x + 1) ((x : Int) + 1) (acc.snoc (.int ((wts g n p rowsN x e m).sum : Nat))) (by omega) (by omega) (by rw [List.take_add_one, hci x (by omega)]; exact ha.snoc _)
      refine ⟨r, hr, fun q hq => ?_⟩
      have nx := nx q hq
      have inner : ∀ (t j : Nat) (s' j' : Int), t + j = n + 1 → j' = j → s' = (((wts g n p rowsN x e m).take j).sum : Nat) → Comes lift_Child.K lift_Child.f lift_Child.s3 ⟨[s', j', 0, 0, x, w.len, x], [], [lv g n p R, .int z, .int e, .list [cv (lv g n p R) z e (-1), .int 0], .list [.int x], w, w, .list [.int x], acc]⟩ (qer q) := by
        intro t
        induction t with
        | zero =>
          intro j s' j' ht hj hs'
          have : j = (wts g n p rowsN x e m).length := by omega
          subst hj hs'
          rw [this, List.take_length]
          have nx' : Comes lift_Child.K lift_Child.f lift_Child.s1 ⟨[(x : Int) + 1], [], [lv g n p R, .int z, .int e, .list [cv (lv g n p R) z e (-1), .int 0], acc.snoc (.int (0 + ((wts g n p rowsN x e m).sum : Nat)))]⟩ (qer q) := by rw [Int.zero_add]; exact nx
          have a2 : Comes lift_Child.K lift_Child.f lift_Child.s2 ⟨[0 + 1, 0 + ((wts g n p rowsN x e m).sum : Nat), x], [], [lv g n p R, .int z, .int e, .list [cv (lv g n p R) z e (-1), .int 0], .list [.int x], acc]⟩ (qer q) := by
            refine Comes.step progOk lift_Child.p6 [] ?_ nx'
            simp only [EvOk, E.b, E.i, E.v, Env.ext, evL]; simp only [hal]; omega
          refine Comes.step progOk lift_Child.p8 [] ?_ a2
          simp only [EvOk, E.b, E.i, E.v, Env.ext, evL]; simp only [wl, hl, and_true, true_and]; omega
        | succ t ih2 =>
          intro j s' j' ht hj hs'
          subst hj hs'
          obtain ⟨d, hd⟩ : ∃ e', (wts g n p rowsN x e m)[j]? = some e' := ⟨_, List.getElem?_eq_getElem (by omega)⟩
          have gd := w1.get hd
          have h1 := sum_take _ j d hd
          have h2 := take_sum_le (wts g n p rowsN x e m) (j + 1)
          have nx2 := ih2 (j + 1) ((((wts g n p rowsN x e m).take j).sum : Nat) + (w.get (j : Int)).toI) ((j : Int) + 1) (by omega) (by omega) (by rw [gd, h1]; omega)
          refine Comes.step progOk lift_Child.p7 [] ?_ nx2
          simp only [EvOk, E.b, E.i, E.v, Env.ext, evL]; simp only [wl, gd, hl, and_true, true_and]; omega
      have b2 : Comes lift_Child.K lift_Child.f lift_Child.s2 ⟨[0, 0, x], [], [lv g n p R, .int z, .int e, .list [cv (lv g n p R) z e (-1), .int 0], .list [.int x], acc]⟩ (qer q) := by
        refine Comes.step progOk lift_Child.p5 [w] ?_ (inner (n + 1) 0 0 0 (by omega) rfl rfl)
        simp only [EvOk, E.b, E.i, E.v, Env.ext, evL]
        have l1 : (V.list [V.int (x : Int)]).len = 1 := rfl
        rw [l1]
        exact ⟨by decide, by decide, by decide, w2⟩
      refine Comes.step progOk lift_Child.p2 [] ?_ b2
      simp only [EvOk, E.b, E.i, E.v, Env.ext, evL]; rw [l3, h0l]; omega
  obtain ⟨r, hr, nx⟩ := loop k 0 0 .nil (by omega) rfl (by simp [Ints, V.els])
  refine ⟨r, hr, fun q hq => Fn.of (C := lift_Child.K) lift_Child.b (Comes.step progOk lift_Child.p1 [.list [cv (lv g n p R) z e (-1), .int 0]] ?_ (nx q hq))⟩
  simp only [EvOk, E.b, E.i, E.v, Env.ext, evL]
  refine ⟨hcnt, rfl, ?_⟩
  rw [l3, hR]; omega
end X
namespace X
open Go Go.Abs Go.Sym
set_option linter.unusedVariables false
set_option linter.unusedSimpArgs false

theorem bin_big : ∀ (n k : Nat), n < k → bin n k = 0
  | 0, k + 1, _ => rfl
  | n + 1, k + 1, h => by unfold bin; rw [bin_big n k (by omega), bin_big n (k + 1) (by omega)]
  | n + 1, 0, h => by omega
/-- A sum over the binomial coefficients. -/
def bsumN (o q m a b : Nat) : Nat := ((List.range (m + 1)).map fun i => bin m i * o ^ (a + i) * q ^ (b + (m - i))).sum
theorem range_sum_succ (n : Nat) (f : Nat → Nat) : ((List.range (n + 1)).map f).sum = f 0 + ((List.range n).map fun i => f (i + 1)).sum := by
  rw [List.range_succ_eq_map, List.map_cons, List.sum_cons, List.map_map]; rfl
theorem range_sum_last (n : Nat) (f : Nat → Nat) : ((List.range (n + 1)).map f).sum = ((List.range n).map f).sum + f n := by
  rw [List.range_succ, List.map_append, List.sum_append]; simp
theorem range_congr (n : Nat) {f g : Nat → Nat} (h : ∀ i, i < n → f i = g i) : ((List.range n).map f).sum = ((List.range n).map g).sum := by
  congr 1
  apply List.map_congr_left
  intro i hi
  exact h i (List.mem_range.1 hi)
theorem bsum_step (o q m a b : Nat) : bsumN o q (m + 1) a b = bsumN o q m (a + 1) b + bsumN o q m a (b + 1) := by
  unfold bsumN
  have h1 : ((List.range (m + 1 + 1)).map fun i => bin (m + 1) i * o ^ (a + i) * q ^ (b + (m + 1 - i))).sum = (1 * o ^ a * q ^ (b + (m + 1)) + ((List.range (m + 1)).map fun i => bin m (i + 1) * o ^ (a + 1 + i) * q ^ (b + (m - i))).sum) + ((List.range (m + 1)).map fun i => bin m i * o ^ (a + 1 + i) * q ^ (b + (m - i))).sum := by
    rw [range_sum_succ, Nat.add_assoc, ← sum_map_add]
    congr 1
    apply range_congr
    intro i hi
    rw [show bin (m + 1) (i + 1) = bin m i + bin m (i + 1) from rfl, show a + (i + 1) = a + 1 + i from by omega, show m + 1 - (i + 1) = m - i from by omega, Nat.add_mul, Nat.add_mul, Nat.add_comm]
  have h2 : ((List.range (m + 1 + 1)).map fun i => bin m i * o ^ (a + i) * q ^ (b + (m + 1 - i))).sum = 1 * o ^ a * q ^ (b + (m + 1)) + ((List.range (m + 1)).map fun i => bin m (i + 1) * o ^ (a + 1 + i) * q ^ (b + (m - i))).sum := by
    rw [range_sum_succ]
    congr 1
    · cases m <;> simp [bin]
    · apply range_congr
      intro i hi
      rw [show a + (i + 1) = a + 1 + i from by omega, show m + 1 - (i + 1) = m - i from by omega]
  have h3 : ((List.range (m + 1 + 1)).map fun i => bin m i * o ^ (a + i) * q ^ (b + (m + 1 - i))).sum = ((List.range (m + 1)).map fun i => bin m i * o ^ (a + i) * q ^ (b + 1 + (m - i))).sum := by
    rw [range_sum_last, bin_big m (m + 1) (by omega)]
    simp only [Nat.zero_mul, Nat.add_zero]
    apply range_congr
    intro i hi
    rw [show b + (m + 1 - i) = b + 1 + (m - i) from by omega]
  rw [h1, ← h2, h3, Nat.add_comm]
theorem bsum_eq (o q : Nat) : ∀ m a b, bsumN o q m a b = o ^ a * q ^ b * (o + q) ^ m
  | 0, a, b => by simp [bsumN, bin]
  | m + 1, a, b => by
    rw [bsum_step, bsum_eq o q m, bsum_eq o q m, Nat.pow_succ o, Nat.pow_succ q, Nat.pow_succ (o + q)]
    have e1 : o ^ a * o * q ^ b * (o + q) ^ m = o ^ a * q ^ b * (o + q) ^ m * o := by
      rw [Nat.mul_assoc (o ^ a) o, Nat.mul_comm o (q ^ b), ← Nat.mul_assoc, Nat.mul_assoc _ o, Nat.mul_comm o ((o + q) ^ m), ← Nat.mul_assoc]
    have e2 : o ^ a * (q ^ b * q) * (o + q) ^ m = o ^ a * q ^ b * (o + q) ^ m * q := by
      rw [← Nat.mul_assoc, Nat.mul_assoc _ q, Nat.mul_comm q ((o + q) ^ m), ← Nat.mul_assoc]
    rw [e1, e2, ← Nat.mul_add, Nat.mul_assoc]
/-- A sum of which only a middle part is not zero. -/
theorem mid_sum (e m z : Nat) (f : Nat → Nat) (h : ∀ j, ¬(e ≤ j ∧ j ≤ e + m) → f j = 0) : ((List.range (z + e + m + 1)).map f).sum = ((List.range (m + 1)).map fun i => f (e + i)).sum := by
  have z0 : ∀ (n s : Nat), (∀ i, i < n → f (s + i) = 0) → ((List.range n).map fun i => f (s + i)).sum = 0 := by
    intro n s hz
    rw [range_congr n (g := fun _ => 0) hz]
    induction n with
    | zero => rfl
    | succ n ih => rw [range_sum_last, ih fun i hi => hz i (by omega)]
  rw [show z + e + m + 1 = e + ((m + 1) + z) from by omega, List.range_add, List.map_append, List.sum_append, List.range_add, List.map_append, List.map_append, List.sum_append, List.map_map, List.map_map, List.map_map]
  have a1 := z0 e 0 (fun i hi => h _ (by omega))
  have a2 := z0 z (e + (m + 1)) (fun i hi => h _ (by omega))
  have b1 : ((List.range e).map f).sum = 0 := by rw [← a1]; congr 2; funext i; simp
  have b2 : ((List.range z).map ((f ∘ fun x => e + x) ∘ fun x => m + 1 + x)).sum = 0 := by
    rw [← a2]; congr 2; funext i; simp only [Function.comp]; rw [show e + (m + 1 + i) = e + (m + 1) + i from by omega]
  rw [b1, b2]
  simp only [Nat.zero_add, Nat.add_zero]
  rfl
/-- With equal rows. -/
theorem wts_eq {G n o s : Nat} {rows : List (List Nat)} {c : Int} (ho : o ≤ G) (hs : ∀ j, j ≤ n → shw G rows c j = s) {z e m : Nat} (h : z + e + m = n) : (wts G n o rows c e m).sum = s * (o ^ e * (G - o) ^ z * G ^ m) := by
  subst h
  unfold wts
  rw [mid_sum e m z _ (fun j hj => by unfold wt; rw [if_neg hj])]
  have e1 : ((List.range (m + 1)).map fun i => wt G (z + e + m) o rows c e m (e + i)).sum = ((List.range (m + 1)).map fun i => s * (bin m i * o ^ (e + i) * (G - o) ^ (z + (m - i)))).sum := by
    apply range_congr
    intro i hi
    unfold wt
    rw [if_pos (by omega), hs _ (by omega), show e + i - e = i from by omega, show z + e + m - (e + i) = z + (m - i) from by omega, Nat.mul_comm]
  rw [e1, sum_map_mul]
  have := bsum_eq o (G - o) m e z
  unfold bsumN at this
  rw [this, show o + (G - o) = G from by omega]
theorem wts_eq_next {G n o s : Nat} {rows : List (List Nat)} {c : Int} (ho : o ≤ G) (hs : ∀ j, j ≤ n → shw G rows c j = s) {z e m : Nat} (h : z + e + m = n) (hm : m ≠ 0) : (wts G n o rows c (e + 1) (m - 1)).sum * G = o * (wts G n o rows c e m).sum := by
  obtain ⟨m, rfl⟩ : ∃ k, m = k + 1 := ⟨m - 1, by omega⟩
  rw [wts_eq ho hs h, wts_eq ho hs (show z + (e + 1) + (m + 1 - 1) = n by omega), Nat.add_sub_cancel, Nat.pow_succ o, Nat.pow_succ G]
  have a : ∀ x y u v : Nat, s * (x * o * y * u) * v = o * (s * (x * y * (u * v))) := by
    intro x y u v
    simp only [Nat.mul_assoc, Nat.mul_left_comm, Nat.mul_comm]
  exact a _ _ _ _
theorem over_spec {a : V} {l : List Nat} {G : Nat} (ha : Ints a l) (hl : l.length ≤ 1000000) (hx : ∀ x ∈ l, x ≤ big) (hG : G ≤ big) (h0 : 0 < G) (hne : l ≠ []) : Fn prog over.f [.int G, a] (.list (l.map fun x => can x G)) := by
  have hal := ha.len
  have loop : ∀ (t i : Nat) (i' : Int) (out : V), t + i = l.length → i' = i → out.els = (l.take i).map (fun x => can x G) → (i ≠ 0 → ∃ k, out = .list k) → Comes over.K over.f over.s1 ⟨[i'], [], [.int G, a, out]⟩ (.list (l.map fun x => can x G)) := by
    intro t
    induction t with
    | zero =>
      intro i i' out ht hi ho hk
      have : i = l.length := by omega
      subst hi this
      rw [List.take_length] at ho
      obtain ⟨k, rfl⟩ := hk (by cases l with | nil => exact absurd rfl hne | cons => simp)
      have : k = l.map fun x => can x G := ho
      subst this
      refine Comes.last progOk over.p2 [] ?_ rfl
      simp only [EvOk, E.b, E.i, E.v, Env.ext, evL]; omega
    | succ t ih =>
      intro i i' out ht hi ho hk
      subst hi
      obtain ⟨d, hd⟩ : ∃ e', l[i]? = some e' := ⟨_, List.getElem?_eq_getElem (by omega)⟩
      have gd := ha.get hd
      have ol : out.len = i := by simp [V.len, ho]; omega
      have hO := of_can (hx d (List.mem_of_getElem? hd)) hG h0
      have nx := ih (i + 1) ((i : Int) + 1) (out.snoc (can d G)) (by omega) (by omega) (by simp [V.snoc, els_list, ho, List.take_add_one, hd]) (fun _ => ⟨_, rfl⟩)
      refine Comes.step progOk over.p1 [can d G] ?_ nx
      simp only [EvOk, E.b, E.i, E.v, Env.ext, evL]
      rw [gd, hal, ol]
      exact ⟨by omega, by omega, hO, by omega, by omega⟩
  exact Fn.of (C := over.K) over.b (Comes.step progOk over.p0 [] trivial (loop l.length 0 0 .nil (by omega) rfl rfl (fun h => absurd rfl h)))
end X
namespace X
open Go Go.Abs Go.Sym
set_option linter.unusedVariables false
set_option linter.unusedSimpArgs false

theorem set_get {R y : V} {j i : Nat} (h : j < R.els.length) : (R.set (j : Int) y).get (i : Int) = if i = j then y else R.get (i : Int) := by
  simp only [V.set, V.get, els_list, Int.toNat_natCast, List.getElem?_set]
  by_cases q : j = i
  · subst q; simp [h]
  · simp [q, Ne.symm q]
theorem set_len {R y : V} {j : Nat} : (R.set (j : Int) y).els.length = R.els.length := by simp [V.set, els_list]
theorem LMod.set {R : V} {G n o k : Nat} {rows : List (List Nat)} (M : LMod R G n o k rows) {j : Nat} (hj : j ≤ n) {r0 : List Nat} (h0 : rows[0]? = some r0) : LMod (R.set (j : Int) (R.get 0)) G n o k (rows.set j r0) := by
  have hrl := M.rlen
  refine ⟨M.g1, M.g2, M.n1, M.n2, M.o1, M.k1, M.k2, by rw [List.length_set, M.len], by rw [set_len, M.rlen], ?_⟩
  intro i r hr
  rw [set_get (by omega)]
  rw [List.getElem?_set] at hr
  by_cases q : j = i
  · subst q
    rw [if_pos rfl, if_pos (by have := M.len; omega)] at hr
    rw [if_pos rfl]
    cases hr
    exact M.row 0 r0 h0
  · rw [if_neg q] at hr
    rw [if_neg (Ne.symm q)]
    exact M.row i r hr
theorem eqrow_end {R : V} {G n o k : Nat} {rows : List (List Nat)} (M : LMod R G n o k rows) {r0 : List Nat} (hr : ∀ j, j ≤ n → rows[j]? = some r0) (D Kn : V) (a b d : Int) (hKn : Kn = .list [.int a, .int b, .int d])
    (e0 : 1 + ((D.get 0).toI).tmod 20 = (G : Int)) (e1 : 1 + ((D.get 1).toI).tmod 10 = (n : Int)) (e2 : ((D.get 2).toI).tmod (1 + ((D.get 0).toI).tmod 20 + 1) = (o : Int)) :
    Comes LiftEqual.K LiftEqual.f LiftEqual.s3 ⟨[R.len, R.len], [], [D, Kn, .bool true, R]⟩ (.bool true) := by
  obtain ⟨z, e, c, hze, hc1, hc2, f16⟩ := KnownOf_spec M a b d
  obtain ⟨m, hm⟩ : ∃ m, z + e + m = n := ⟨n - z - e, by omega⟩
  have hN := Next_spec M hm hc1 hc2
  have hR : R.len = (n + 1 : Int) := by simp [V.len, M.rlen]
  have hn2 := M.n2
  have hG1 := M.g1
  have hG2 := M.g2
  have ho := M.o1
  obtain ⟨i1, i2, i3⟩ := M.row 0 r0 (hr 0 (by omega))
  have f16' : Fn prog 16 [(((V.list []).snoc (.int (Kn.get 0).toI)).snoc (.int (Kn.get 1).toI)).snoc (.int (Kn.get 2).toI), ((((V.list []).snoc (.int G)).snoc (.int n)).snoc (.int o)).snoc R] (.list [.int z, .int e, .int c]) := by subst hKn; exact f16
  have hs : ∀ c j, j ≤ n → shw G rows c j = if c < 0 then G else r0[c.toNat]?.getD 0 := by
    intro c j hj; unfold shw; rw [hr j hj]; rfl
  have hW := wts_eq (z := z) (e := e) (m := m) ho (hs c) hm
  rw [e0] at e2
  by_cases hm0 : m = 0
  · rw [if_pos hm0] at hN
    refine Comes.last progOk LiftEqual.p8 [.list [.int z, .int e, .int c], .list [qn 0 0, .int 4]] ?_ ?_
    · simp only [EvOk, E.b, E.i, E.v, Env.ext, evL]
      simp only [e0, e1, e2]
      refine ⟨by omega, f16', hN, ?_, ?_⟩
      · show -9223372036854775808 ≤ (z : Int) + e ∧ (z : Int) + e ≤ 9223372036854775807
        omega
      · show (z : Int) + e = n
        omega
    · rfl
  rw [if_neg hm0] at hN
  by_cases hW0 : (wts G n o rows c e m).sum = 0
  · rw [if_pos hW0] at hN
    refine Comes.last progOk LiftEqual.p9 [.list [.int z, .int e, .int c], .list [qn 0 0, .int 7]] ?_ ?_
    · simp only [EvOk, E.b, E.i, E.v, Env.ext, evL]
      simp only [e0, e1, e2]
      refine ⟨by omega, f16', hN, ?_, ?_, by decide⟩
      · show -9223372036854775808 ≤ (z : Int) + e ∧ (z : Int) + e ≤ 9223372036854775807
        omega
      · show ¬ (z : Int) + e = n
        omega
    · rfl
  rw [if_neg hW0] at hN
  have hWn := wts_eq_next ho (hs c) hm hm0
  have hnext := can_eq (Nat.pos_of_ne_zero hW0) (show 0 < G by omega) hWn
  rw [hnext] at hN
  obtain ⟨hcs2, r, hr1, fA⟩ := Child_lift M hm
  generalize hT : o ^ e * (G - o) ^ z * G ^ m = T at *
  have hT0 : T ≠ 0 := by intro h; rw [hW, h, Nat.mul_zero] at hW0; exact hW0 rfl
  have hcs : ((List.range k).map (fun x : Nat => (wts G n o rows (x : Int) e m).sum)) = r0.map (fun x => x * T) := by
    apply List.ext_getElem?
    intro x
    by_cases hx : x < k
    · obtain ⟨y, hy⟩ : ∃ y, r0[x]? = some y := ⟨_, List.getElem?_eq_getElem (by omega)⟩
      have := wts_eq (z := z) (e := e) (m := m) ho (hs x) hm
      rw [hT] at this
      have hnx : ¬ ((x : Int) < 0) := by omega
      simp [hx, hy, this, hnx]
    · rw [List.getElem?_eq_none (by simp; omega), List.getElem?_eq_none (by simp; omega)]
  have hsum : (r0.map (fun x => x * T)).sum = G * T := by
    have : (r0.map (fun x => x * T)).sum = r0.sum * T := by
      rw [show (fun x => x * T) = fun x => T * x from funext fun x => Nat.mul_comm x T, sum_map_mul, List.map_id', Nat.mul_comm]
    rw [this, i3]
  rw [hcs] at hr1 hcs2
  obtain ⟨q, q1, q2⟩ := shared_spec hr1 (by have := M.k2; rw [List.length_map]; omega) hcs2
  have fA := fA q q1
  have hGT : 0 < G * T := Nat.mul_pos (by omega) (Nat.pos_of_ne_zero hT0)
  rw [hsum, if_neg (by omega)] at q2
  obtain ⟨q3, q4⟩ := q2
  obtain ⟨ql, rfl⟩ := q4 (by have := M.k1; rw [List.length_map]; omega)
  rw [qer_ne (by intro h; cases h)] at fA
  have hql : ql = r0.map (fun x => can x G) := by
    have : ql = (r0.map (fun x => x * T)).map (fun x => can x (G * T)) := q3
    rw [this, List.map_map]
    apply List.map_congr_left
    intro x hx
    exact can_eq hGT (by omega) (by rw [Nat.mul_assoc, Nat.mul_comm T G])
  have hb : big = 4611686018427387903 := rfl
  have hO := of_can (a := o) (b := G) (by omega) (by omega) (by omega)
  have hov := over_spec i1 (by have := M.k2; omega) (fun x hx => by have := le_sum hx; omega) (show G ≤ big by omega) (by omega) (by intro h; rw [h] at i2; have := M.k1; simp at i2; omega)
  rw [← hql] at hov
  have heq := equalQ_refl (.list ql) (by simp only [V.len, els_list, hql, List.length_map]; have := M.k2; omega)
  refine Comes.last progOk LiftEqual.p10 [.list [.int z, .int e, .int c], .list [can o G, .int 0], .list [.list ql, .int 0], can o G, .list ql, .bool true] ?_ rfl
  simp only [EvOk, E.b, E.i, E.v, Env.ext, evL]
  simp only [e0, e1, e2]
  refine ⟨by omega, f16', hN, ?_, ?_, rfl, fA, hO, ⟨rfl, rfl⟩, rfl, by omega, by omega, hov, heq⟩
  · show -9223372036854775808 ≤ (z : Int) + e ∧ (z : Int) + e ≤ 9223372036854775807
    omega
  · show ¬ (z : Int) + e = n
    omega
theorem LiftEqual_tail {R : V} {G n o k : Nat} {rows : List (List Nat)} (M : LMod R G n o k rows) (D Kn : V) (e0 : 1 + ((D.get 0).toI).tmod 20 = (G : Int)) (e1 : 1 + ((D.get 1).toI).tmod 10 = (n : Int)) (e2 : ((D.get 2).toI).tmod (1 + ((D.get 0).toI).tmod 20 + 1) = (o : Int)) {a b d : Int} (hKn : Kn = .list [.int a, .int b, .int d]) :
    Comes LiftEqual.K LiftEqual.f LiftEqual.s3 ⟨[R.len, 0], [], [D, Kn, .bool true, R]⟩ (.bool true) := by
  have hn2 := M.n2
  have loop : ∀ (t j : Nat) (j' : Int) (R : V) (rows : List (List Nat)) (r0 : List Nat), t + j = n + 1 → j' = j → LMod R G n o k rows → rows[0]? = some r0 → (∀ i, i < j → rows[i]? = some r0) → Comes LiftEqual.K LiftEqual.f LiftEqual.s3 ⟨[R.len, j'], [], [D, Kn, .bool true, R]⟩ (.bool true) := by
    intro t
    induction t with
    | zero =>
      intro j j' R rows r0 ht hj M h0 hall
      have hR : R.len = (n + 1 : Int) := by simp [V.len, M.rlen]
      have : j' = R.len := by omega
      subst this
      exact eqrow_end M (fun i hi => hall i (by omega)) D Kn a b d hKn e0 e1 e2
    | succ t ih =>
      intro j j' R rows r0 ht hj M h0 hall
      subst hj
      have hR : R.len = (n + 1 : Int) := by simp [V.len, M.rlen]
      have hl := M.len
      have M' := M.set (j := j) (by omega) h0
      have nx := ih (j + 1) ((j : Int) + 1) _ _ r0 (by omega) (by omega) M' (by
        rw [List.getElem?_set]
        by_cases q : j = 0
        · rw [if_pos q, if_pos (by omega)]
        · rw [if_neg q, h0]) (by
        intro i hi
        rw [List.getElem?_set]
        by_cases q : j = i
        · subst q; rw [if_pos rfl, if_pos (by omega)]
        · rw [if_neg q]; exact hall i (by omega))
      have hlen : (R.set (j : Int) (R.get 0)).len = R.len := by unfold V.len; rw [set_len]
      rw [hlen] at nx
      refine Comes.step progOk LiftEqual.p7 [] ?_ nx
      simp only [EvOk, E.b, E.i, E.v, Env.ext, evL]
      omega
  obtain ⟨r0, h0⟩ : ∃ r, rows[0]? = some r := ⟨_, List.getElem?_eq_getElem (by have := M.len; omega)⟩
  exact loop (n + 1) 0 0 R rows r0 (by omega) rfl M h0 (fun i hi => by omega)
theorem LiftEqual_spec {g c o w : Nat} {L : V} {l : List Nat} (hg : g ≤ 255) (hc : c ≤ 255) (ho : o ≤ 255) (hw : w ≤ 255) (hL : Ints L l) (hl : ∀ x ∈ l, x ≤ 255) (hll : l.length ≤ 9223372036854775807) (a b d : Int) :
    Fn prog LiftEqual.f [.list [.int g, .int c, .int o, .int w, L], .list [.int a, .int b, .int d]] (.bool true) := by
  generalize hKn : V.list [.int a, .int b, .int d] = Kn
  have hKn := hKn.symm
  have e0 : ((V.list [.int g, .int c, .int o, .int w, L]).get 0).toI = g := rfl
  have e1 : ((V.list [.int g, .int c, .int o, .int w, L]).get 1).toI = c := rfl
  have e2 : ((V.list [.int g, .int c, .int o, .int w, L]).get 2).toI = o := rfl
  have e3 : ((V.list [.int g, .int c, .int o, .int w, L]).get 3).toI = w := rfl
  have e4 : (V.list [.int g, .int c, .int o, .int w, L]).get 4 = L := rfl
  have tn : ∀ (x : Nat) (y : Nat), ((x : Int)).tmod (y : Int) = ((x % y : Nat) : Int) := by
    intro x y; rw [Int.tmod_eq_emod_of_nonneg (by omega)]; rfl
  have m0 : ((g : Int)).tmod 20 = ((g % 20 : Nat) : Int) := tn g 20
  have m1 : ((c : Int)).tmod 10 = ((c % 10 : Nat) : Int) := tn c 10
  have m3 : ((w : Int)).tmod 3 = ((w % 3 : Nat) : Int) := tn w 3
  have m2 : ((o : Int)).tmod (1 + ((g % 20 : Nat) : Int) + 1) = ((o % (1 + g % 20 + 1) : Nat) : Int) := by
    rw [← tn]; congr 1
  have lL := hL.len
  generalize hD : V.list [.int g, .int c, .int o, .int w, L] = D at *
  have h20 : g % 20 < 20 := Nat.mod_lt _ (by omega)
  have h10 : c % 10 < 10 := Nat.mod_lt _ (by omega)
  have h3 : w % 3 < 3 := Nat.mod_lt _ (by omega)
  generalize hG : g % 20 = G at *
  generalize hn : c % 10 = n at *
  generalize hk : w % 3 = k at *
  have ho1 : o % (1 + G + 1) < 1 + G + 1 := Nat.mod_lt _ (by omega)
  generalize hO : o % (1 + G + 1) = O at *
  have e0' : 1 + ((D.get 0).toI).tmod 20 = ((1 + G : Nat) : Int) := by rw [e0, m0]; omega
  have e1' : 1 + ((D.get 1).toI).tmod 10 = ((1 + n : Nat) : Int) := by rw [e1, m1]; omega
  have e2' : ((D.get 2).toI).tmod (1 + ((D.get 0).toI).tmod 20 + 1) = (O : Int) := by rw [e0, e2, m0, m2]
  -- rows so far
  let Inv := fun (R : V) (rows : List (List Nat)) (j : Nat) => R.els.length = j ∧ rows.length = j ∧ ∀ (i : Nat) (r : List Nat), rows[i]? = some r → Ints (R.get (i : Int)) r ∧ r.length = 2 + k ∧ r.sum = 1 + G
  have inner : ∀ (j : Nat) (R : V), j ≤ 1 + n → R.els.length = j → (∀ (x : V) (r : List Nat), Ints x r → r.length = 2 + k → r.sum = 1 + G → Comes LiftEqual.K LiftEqual.f LiftEqual.s1 ⟨[(j : Int) + 1], [], [D, Kn, .bool true, R.snoc x]⟩ (.bool true)) →
      ∀ (t i : Nat) (i' : Int) (some_ : V) (s : List Nat), t + i = 4 → i' = i → Ints some_ s → s.length ≤ i → (∀ x ∈ s, x ≤ 255) → Comes LiftEqual.K LiftEqual.f LiftEqual.s2 ⟨[i', (j : Int)], [], [D, Kn, .bool true, some_, R]⟩ (.bool true) := by
    intro j R hj hR H t
    have lR : R.len = j := by simp [V.len, hR]
    induction t with
    | zero =>
      intro i i' some_ s ht hi hs hsl hsx
      subst hi
      obtain ⟨x, r, x1, x2, x3, x4⟩ := Split_spec hs hsx (n := 2 + k) (G := 1 + G) (by omega) (by omega) (by omega)
      rw [Int.natCast_add, Int.natCast_add] at x4
      have q2 := H x r x1 x2 x3
      refine Comes.step progOk LiftEqual.p6 [x] ?_ q2
      simp only [EvOk, E.b, E.i, E.v, Env.ext, evL]
      simp only [e0, e3, m0, m3]
      refine ⟨by omega, by omega, by omega, x4, ?_, by omega⟩
      rw [lR]; omega
    | succ t ih =>
      intro i i' some_ s ht hi hs hsl hsx
      subst hi
      have ls := hs.len
      by_cases h0 : 0 < l.length
      · have hx : ((3 : Int) * j + i).tmod L.len = (((3 * j + i) % l.length : Nat) : Int) := by
          rw [lL, ← tn]; congr 1
        have hlt : (3 * j + i) % l.length < l.length := Nat.mod_lt _ h0
        obtain ⟨d, hd⟩ : ∃ e, l[(3 * j + i) % l.length]? = some e := ⟨_, List.getElem?_eq_getElem hlt⟩
        have gd := hL.get hd
        have hd255 := hl d (List.mem_of_getElem? hd)
        have q2 := ih (i + 1) ((i : Int) + 1) (some_.snoc (.int ((L.get (((3 : Int) * j + i).tmod L.len)).toI))) (s ++ [d]) (by omega) (by omega) (by rw [hx, gd]; exact hs.snoc d) (by simp; omega) (by intro y hy; simp at hy; rcases hy with hy | hy; exact hsx y hy; omega)
        rw [← e4] at q2
        refine Comes.step progOk LiftEqual.p4 [] ?_ q2
        simp only [EvOk, E.b, E.i, E.v, Env.ext, evL]
        simp only [e4, hx]
        rw [lL]
        omega
      · obtain ⟨x, r, x1, x2, x3, x4⟩ := Split_spec hs hsx (n := 2 + k) (G := 1 + G) (by omega) (by omega) (by omega)
        rw [Int.natCast_add, Int.natCast_add] at x4
        have q2 := H x r x1 x2 x3
        refine Comes.step progOk LiftEqual.p5 [x] ?_ q2
        simp only [EvOk, E.b, E.i, E.v, Env.ext, evL]
        simp only [e0, e3, e4, m0, m3]
        refine ⟨by omega, by omega, by omega, by omega, x4, ?_, by omega⟩
        rw [lR]; omega
  have outer : ∀ (t j : Nat) (j' : Int) (R : V) (rows : List (List Nat)), t + j = 2 + n → j' = j → Inv R rows j → Comes LiftEqual.K LiftEqual.f LiftEqual.s1 ⟨[j'], [], [D, Kn, .bool true, R]⟩ (.bool true) := by
    intro t
    induction t with
    | zero =>
      intro j j' R rows ht hj hI
      subst hj
      obtain ⟨i1, i2, i3⟩ := hI
      have M : LMod R (1 + G) (1 + n) O (2 + k) rows := ⟨by omega, by omega, by omega, by omega, by omega, by omega, by omega, by omega, by omega, i3⟩
      have nx := LiftEqual_tail M D Kn e0' e1' e2' hKn
      refine Comes.step progOk LiftEqual.p3 [] ?_ nx
      simp only [EvOk, E.b, E.i, E.v, Env.ext, evL]
      simp only [e1, m1]
      omega
    | succ t ih =>
      intro j j' R rows ht hj hI
      subst hj
      obtain ⟨i1, i2, i3⟩ := hI
      have q2 := inner j R (by omega) i1 (fun x r h1 h2 h3 => ih (j + 1) ((j : Int) + 1) (R.snoc x) (rows ++ [r]) (by omega) (by omega) ⟨by rw [snoc_els, i1], by simp [i2], by
        intro i r' hr'
        by_cases hi : i < j
        · rw [List.getElem?_append_left (by omega)] at hr'
          rw [snoc_get_lt (by omega)]
          exact i3 i r' hr'
        · have : i = j := by
            have := (List.getElem?_eq_some_iff.1 hr').1
            simp at this; omega
          subst this
          rw [List.getElem?_append_right (by omega), i2, Nat.sub_self] at hr'
          simp at hr'
          subst hr'
          have := snoc_get_eq (R := R) (x := x)
          rw [i1] at this
          rw [this]
          exact ⟨h1, h2, h3⟩⟩) 4 0 0 .nil [] (by omega) rfl ints_nil (by simp) (by simp)
      refine Comes.step progOk LiftEqual.p2 [] ?_ q2
      simp only [EvOk, E.b, E.i, E.v, Env.ext, evL]
      simp only [e1, m1]
      omega
  have q2 := outer (2 + n) 0 0 .nil [] (by omega) rfl ⟨rfl, rfl, by simp⟩
  refine Fn.of (C := LiftEqual.K) LiftEqual.b (Comes.step progOk LiftEqual.p1 [.bool true] ?_ q2)
  simp only [EvOk, E.b, E.i, E.v, Env.ext, evL]
  simp only [e0, e1, e2, m0, m1, m2]
  refine ⟨wakes_spec, ?_⟩
  omega
end X
namespace Go.Sym
open Go Go.Abs
theorem WT.struct {P : Program} {d : Nat} {t : TypeId} {x : V} {fields : Array Field} (hu : P.underlying t = some (.struct fields)) (h : WT P (d + 1) t x) : ∃ xs, x = .list xs ∧ xs.length = fields.toList.length ∧ ∀ (i : Nat) f y, fields.toList[i]? = some f → xs[i]? = some y → WT P d f.type y := by
  unfold WT at h; rw [hu] at h; exact h
theorem WT.intv {P : Program} {d : Nat} {t : TypeId} {x : V} {k : IntKind} (hu : P.underlying t = some (.int k)) (h : WT P (d + 1) t x) : ∃ n, x = .int n ∧ k.min ≤ n ∧ n ≤ k.max := by
  unfold WT at h; rw [hu] at h; exact h
theorem WT.slice {P : Program} {d : Nat} {t et : TypeId} {x : V} (hu : P.underlying t = some (.slice et)) (h : WT P (d + 1) t x) : x = .nil ∨ ∃ l, x = .list l ∧ l.length ≤ Go.maxLen ∧ ∀ y ∈ l, WT P d et y := by
  unfold WT at h; rw [hu] at h; exact h
end Go.Sym
namespace Go.Proofs.Ytildjgdhdcoojaa.Par
set_option linter.unusedVariables false
open Go.Sym (WT WTs V Ints)
open X (Zs Tab TabL gm)

set_option maxRecDepth 100000 in
theorem ints_of {d : Nat} {x : V} (h : WT Try.prog (d + 2) 22 x) : ∃ l : List Nat, Ints x l ∧ (∀ y ∈ l, y ≤ 255) ∧ l.length ≤ Go.maxLen := by
  rcases WT.slice Try.underlying22 h with rfl | ⟨l, rfl, hl, hy⟩
  · exact ⟨[], rfl, by simp, by simp⟩
  · clear h
    induction l with
    | nil => exact ⟨[], rfl, by simp, by simp⟩
    | cons a l ih =>
      obtain ⟨k, k1, k2, k3⟩ := ih (by simp at hl; omega) (fun y hm => hy y (by simp [hm]))
      obtain ⟨n, rfl, h1, h2⟩ := WT.intv Try.underlying5 (hy a (by simp))
      have h1' : (0 : Int) ≤ n := h1
      have h2' : n ≤ 255 := h2
      obtain ⟨m, rfl⟩ : ∃ m : Nat, n = m := ⟨n.toNat, by omega⟩
      refine ⟨m :: k, ?_, ?_, ?_⟩
      · unfold Ints at *
        simp only [V.els, List.map_cons] at *
        rw [k1]; rfl
      · intro y hy'
        rcases List.mem_cons.1 hy' with rfl | q
        · omega
        · exact k2 y q
      · have : l.length = k.length := by
          unfold Ints at k1
          simp only [V.els] at k1
          rw [k1]; simp
        simp only [List.length_cons] at *
        omega
set_option maxRecDepth 100000 in
theorem draft_of {k : Nat} {x : V} (h : WT Try.prog (k + 4) 24 x) : ∃ (a b c d : Nat) (e : V) (l : List Nat), x = .list [.int a, .int b, .int c, .int d, e] ∧ a ≤ 255 ∧ b ≤ 255 ∧ c ≤ 255 ∧ d ≤ 255 ∧ Ints e l ∧ (∀ y ∈ l, y ≤ 255) ∧ l.length ≤ 9223372036854775807 := by
  obtain ⟨xs, rfl, l0, f0⟩ := WT.struct Try.underlying24 h
  match xs, l0 with
  | [a, b, c, d, e], _ =>
  obtain ⟨a, rfl, a1, a2⟩ := WT.intv Try.underlying5 (f0 0 _ _ rfl rfl)
  obtain ⟨b, rfl, b1, b2⟩ := WT.intv Try.underlying5 (f0 1 _ _ rfl rfl)
  obtain ⟨c, rfl, c1, c2⟩ := WT.intv Try.underlying5 (f0 2 _ _ rfl rfl)
  obtain ⟨d, rfl, d1, d2⟩ := WT.intv Try.underlying5 (f0 3 _ _ rfl rfl)
  obtain ⟨l, i1, i2, i3⟩ := ints_of (f0 4 _ _ rfl rfl)
  have a1 : (0 : Int) ≤ a := a1
  have a2 : a ≤ 255 := a2
  have b1 : (0 : Int) ≤ b := b1
  have b2 : b ≤ 255 := b2
  have c1 : (0 : Int) ≤ c := c1
  have c2 : c ≤ 255 := c2
  have d1 : (0 : Int) ≤ d := d1
  have d2 : d ≤ 255 := d2
  obtain ⟨a, rfl⟩ : ∃ m : Nat, a = m := ⟨a.toNat, by omega⟩
  obtain ⟨b, rfl⟩ : ∃ m : Nat, b = m := ⟨b.toNat, by omega⟩
  obtain ⟨c, rfl⟩ : ∃ m : Nat, c = m := ⟨c.toNat, by omega⟩
  obtain ⟨d, rfl⟩ : ∃ m : Nat, d = m := ⟨d.toNat, by omega⟩
  have hm : Go.maxLen ≤ 9223372036854775807 := by decide
  exact ⟨a, b, c, d, e, l, rfl, by omega, by omega, by omega, by omega, i1, i2, by omega⟩
set_option maxRecDepth 100000 in
theorem known_of {k : Nat} {x : V} (h : WT Try.prog (k + 4) 45 x) : ∃ (a b d : Int), x = .list [.int a, .int b, .int d] ∧ -9223372036854775808 ≤ a ∧ a ≤ 9223372036854775807 ∧ -9223372036854775808 ≤ b ∧ b ≤ 9223372036854775807 ∧ -9223372036854775808 ≤ d ∧ d ≤ 9223372036854775807 := by
  obtain ⟨xs, rfl, l0, f0⟩ := WT.struct Try.underlying45 h
  match xs, l0 with
  | [a, b, d], _ =>
  obtain ⟨a, rfl, a1, a2⟩ := WT.intv Try.underlying3 (f0 0 _ _ rfl rfl)
  obtain ⟨b, rfl, b1, b2⟩ := WT.intv Try.underlying3 (f0 1 _ _ rfl rfl)
  obtain ⟨d, rfl, d1, d2⟩ := WT.intv Try.underlying3 (f0 2 _ _ rfl rfl)
  exact ⟨a, b, d, rfl, a1, a2, b1, b2, d1, d2⟩
end Go.Proofs.Ytildjgdhdcoojaa.Par
