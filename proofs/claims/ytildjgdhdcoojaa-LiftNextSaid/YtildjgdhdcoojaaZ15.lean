/- Texts of the claim: Lift14, Lift15, Lift16, WTt, Par. -/
import Derived.Test.YtildjgdhdcoojaaZ12
import Derived.Test.YtildjgdhdcoojaaZ14
import Derived.Test.YtildjgdhdcoojaaZ10
import Derived.Test.YtildjgdhdcoojaaRows
import Derived.WalkKit
namespace X
open Go Go.Abs Go.Sym
set_option linter.unusedVariables false
set_option linter.unusedSimpArgs false

theorem models_spec {g c o w : Nat} {L : V} {l : List Nat} (hg : g ≤ 255) (hc : c ≤ 255) (ho : o ≤ 255) (hw : w ≤ 255) (hL : Ints L l) (hl : ∀ x ∈ l, x ≤ 255) (hll : l.length ≤ 9223372036854775807)
    {bw bj ba : Nat} {N : Int} (hbj : bj ≤ 255) (hba : ba ≤ 255) (hN1 : -9223372036854775808 ≤ N) (hN2 : N ≤ 9223372036854775807)
    {rG rC ro : Int} {rR : V} {rrows : List (List Int)} (tab : Tab rR rrows) (hC1 : -9223372036854775808 ≤ rC) (hC2 : rC ≤ 9223372036854775807) :
    ∃ G0 C0 o0 R0 rows0 G1 C1 o1 R1 rows1 R2 rows2, GMod G0 C0 o0 R0 rows0 ∧ GMod G1 C1 o1 R1 rows1 ∧ GMod rG rC ro R2 rows2 ∧
      Fn prog models.f [.list [.int g, .int c, .int o, .int w, L], .list [.int bw, .int bj, .int ba, .int N], gm rG rC ro rR] (.list [gm G0 C0 o0 R0, gm G1 C1 o1 R1, gm rG rC ro R2]) := by
  obtain ⟨R, n', rows, M, hn', f17⟩ := DraftLift_spec hg hc ho hw hL hl hll
  subst hn'
  obtain ⟨G1, C1, o1, R1, rows1, M1, f35⟩ := BendOf_spec M (w := bw) hbj hba hN1 hN2
  obtain ⟨R2, rows2, M2, f36⟩ := few_spec (G := rG) (o := ro) tab hC1 hC2
  refine ⟨_, _, _, R, _, G1, C1, o1, R1, rows1, R2, rows2, M.gmod, M1, M2, ?_⟩
  refine Fn.of (C := models.K) models.b (Comes.last progOk models.p0 [lv (1 + g % 20) (1 + c % 10) (o % (1 + g % 20 + 1)) R, gm G1 C1 o1 R1, gm rG rC ro R2] ?_ rfl)
  simp only [EvOk, E.b, E.i, E.v, Env.ext, evL]
  exact ⟨f17, f35, f36⟩
end X
namespace X
open Go Go.Abs Go.Sym
set_option linter.unusedVariables false
set_option linter.unusedSimpArgs false

theorem code_ne {G C o : Int} {rows : List (List Int)} {z e c : Int} (hbad : ¬ (okM G C o rows = true ∧ fitE C rows z e c)) : code G C o rows z e c ≠ 0 := by
  unfold code
  by_cases h1 : okM G C o rows = true
  · rw [if_pos h1, if_neg fun h2 => hbad ⟨h1, h2⟩]; decide
  · rw [if_neg h1]; decide
theorem Next_agree {G C o : Int} {R : V} {rows : List (List Int)} (M : GMod G C o R rows) (z e c : Int) : ∃ q er, Fn prog lift_Next.f [gm G C o R, .int z, .int e, .int c] (.list [q, .int er]) ∧ Fn prog ref14_Next.f [gm G C o R, .int z, .int e, .int c] (.list [q, .int er]) := by
  have hE := Errors_spec M z e c
  by_cases hbad : okM G C o rows = true ∧ fitE C rows z e c
  rotate_left
  · have hc := count_err M z e c hbad
    have hcode := code_ne hbad
    refine ⟨qn 0 0, code G C o rows z e c, ?_, ?_⟩
    · refine Fn.of (C := lift_Next.K) lift_Next.b (Comes.last progOk lift_Next.p0 [.list [zc, .int (code G C o rows z e c)]] ?_ rfl)
      simp only [EvOk, E.b, E.i, E.v, Env.ext, evL]; exact ⟨hc, hcode⟩
    · refine Fn.of (C := ref14_Next.K) ref14_Next.b (Comes.last progOk ref14_Next.p0 [.int (code G C o rows z e c)] ?_ rfl)
      simp only [EvOk, E.b, E.i, E.v, Env.ext, evL]; exact ⟨hE, hcode⟩
  obtain ⟨hok, hf⟩ := hbad
  have hcode : code G C o rows z e c = 0 := by unfold code; rw [if_pos hok, if_pos hf]
  rw [hcode] at hE
  obtain ⟨g, n, p, k, rfl, rfl, rfl, hk, L, hgm⟩ := okM_mod M hok
  obtain ⟨z, e, m, rfl, rfl, hzem⟩ := fit_parts hf
  have hc1 : -1 ≤ c := hf.2.2.2.2.1
  have hck : c < k := by rw [hk]; exact hf.2.2.2.2.2
  rw [hgm] at hE ⊢
  generalize (rows.map fun r => r.map Int.toNat) = rowsN at *
  have hN := Next_spec L hzem hc1 hck
  obtain ⟨w', w1', w2'⟩ := Weights_spec L hzem hc1 hck
  have hsum := wts_sum_le L c (e := e) (m := m) (by omega)
  have hS : (wts g n p rowsN c e m).sum ≤ big := Nat.le_trans hsum hbigS
  have hl := wts_len g n p rowsN c e m
  have hn2 := L.n2
  have hT := Total_spec w1' (by omega) hS
  have l1 : ((lv g n p R).get 1).toI = n := rfl
  by_cases hm : m = 0
  · rw [if_pos hm] at hN
    refine ⟨_, _, hN, Fn.of (C := ref14_Next.K) ref14_Next.b (Comes.last progOk ref14_Next.p1 [.int 0] ?_ rfl)⟩
    simp only [EvOk, E.b, E.i, E.v, Env.ext, evL]
    refine ⟨hE, by omega, ?_⟩
    rw [l1]; omega
  · rw [if_neg hm] at hN
    by_cases h0 : (wts g n p rowsN c e m).sum = 0
    · rw [if_pos h0] at hN
      refine ⟨_, _, hN, Fn.of (C := ref14_Next.K) ref14_Next.b (Comes.last progOk ref14_Next.p2 [.int 0, w', .int ((wts g n p rowsN c e m).sum : Nat)] ?_ rfl)⟩
      simp only [EvOk, E.b, E.i, E.v, Env.ext, evL]
      refine ⟨hE, by omega, ?_, w2', hT, by omega⟩
      rw [l1]; omega
    · rw [if_neg h0] at hN
      obtain ⟨x', x1', x2'⟩ := Weights_spec L (z := z) (e := e + 1) (m := m - 1) (by omega) hc1 hck
      have hsum2 := wts_sum_le L c (e := e + 1) (m := m - 1) (by omega)
      have hS2 : (wts g n p rowsN c (e + 1) (m - 1)).sum ≤ big := Nat.le_trans hsum2 hbigS
      have hT2 := Total_spec x1' (by rw [wts_len]; omega) hS2
      have hO := of_can hS2 hS (Nat.pos_of_ne_zero h0)
      refine ⟨_, _, hN, Fn.of (C := ref14_Next.K) ref14_Next.b (Comes.last progOk ref14_Next.p3 [.int 0, w', .int ((wts g n p rowsN c e m).sum : Nat), x', .int ((wts g n p rowsN c (e + 1) (m - 1)).sum : Nat), can (wts g n p rowsN c (e + 1) (m - 1)).sum (wts g n p rowsN c e m).sum] ?_ rfl)⟩
      simp only [EvOk, E.b, E.i, E.v, Env.ext, evL]
      refine ⟨hE, by omega, ?_, w2', hT, by omega, by omega, x2', hT2, hO⟩
      rw [l1]; omega

def qer : V → V
  | .nil => .list [.nil, .int 7]
  | q => .list [q, .int 0]
theorem qer_ne {q : V} (h : q ≠ .nil) : qer q = .list [q, .int 0] := by
  cases q <;> first | rfl | exact absurd rfl h
theorem row0_len {R : V} {G n o k : Nat} {rows : List (List Nat)} (M : LMod R G n o k rows) : (R.get 0).len = (k : Int) := by
  obtain ⟨r, hr⟩ : ∃ r, rows[0]? = some r := ⟨_, List.getElem?_eq_getElem (by have := M.len; omega)⟩
  have := (M.row 0 r hr).1.len
  have hk := (M.row 0 r hr).2.1
  rw [show ((0 : Nat) : Int) = 0 from rfl] at this
  rw [this, hk]
theorem Child_agree {G C o : Int} {R : V} {rows : List (List Int)} (M : GMod G C o R rows) (z e : Int) : ∃ q er, q.len ≤ 100 ∧ Fn prog lift_Child.f [gm G C o R, .int z, .int e] (.list [q, .int er]) ∧ Fn prog ref14_Child.f [gm G C o R, .int z, .int e] (.list [q, .int er]) := by
  have hE := Errors_spec M z e (-1)
  by_cases hbad : okM G C o rows = true ∧ fitE C rows z e (-1)
  rotate_left
  · have hc := count_err M z e (-1) hbad
    have hcode := code_ne hbad
    refine ⟨.nil, code G C o rows z e (-1), by decide, ?_, ?_⟩
    · refine Fn.of (C := lift_Child.K) lift_Child.b (Comes.last progOk lift_Child.p0 [.list [zc, .int (code G C o rows z e (-1))]] ?_ rfl)
      simp only [EvOk, E.b, E.i, E.v, Env.ext, evL]; exact ⟨hc, hcode⟩
    · refine Fn.of (C := ref14_Child.K) ref14_Child.b (Comes.last progOk ref14_Child.p0 [.int (code G C o rows z e (-1))] ?_ rfl)
      simp only [EvOk, E.b, E.i, E.v, Env.ext, evL]; exact ⟨hE, hcode⟩
  obtain ⟨hok, hf⟩ := hbad
  have hcode : code G C o rows z e (-1) = 0 := by unfold code; rw [if_pos hok, if_pos hf]
  rw [hcode] at hE
  obtain ⟨g, n, p, k, rfl, rfl, rfl, hk, L, hgm⟩ := okM_mod M hok
  obtain ⟨z, e, m, rfl, rfl, hzem⟩ := fit_parts hf
  rw [hgm] at hE ⊢
  generalize (rows.map fun r => r.map Int.toNat) = rowsN at *
  have k1 := L.k1
  have k2 := L.k2
  have hn2 := L.n2
  have hcnt := count_spec L (z := z) (e := e) (c := -1) (by omega) (by omega) (by omega)
  have l3 : (lv g n p R).get 3 = R := rfl
  have hR : R.len = (n + 1 : Int) := by simp [V.len, L.rlen]
  have h0l := row0_len L
  have cb : 4 * (11 * (252 * 20 ^ 10 * 20)) ≤ big := by decide
  have hbb : big ≤ 9000000000000000000 := by decide
  -- the weights of the child's values
  generalize hcs : (List.range k).map (fun x : Nat => (wts g n p rowsN (x : Int) e m).sum) = cs
  have hcl : cs.length = k := by rw [← hcs]; simp
  have hci : ∀ x, x < k → cs[x]? = some (wts g n p rowsN x e m).sum := by intro x hx; rw [← hcs]; simp [hx]
  have hle : ∀ x, x ∈ cs → x ≤ 11 * (252 * 20 ^ 10 * 20) := by
    intro x hx
    rw [← hcs] at hx
    obtain ⟨y, hy, rfl⟩ := List.mem_map.1 hx
    exact wts_sum_le L y (e := e) (m := m) (by omega)
  have sum_le : ∀ (l : List Nat) (B : Nat), (∀ x ∈ l, x ≤ B) → l.sum ≤ l.length * B := by
    intro l B
    induction l with
    | nil => intro _; simp
    | cons a l ih =>
      intro h
      have := ih fun x hx => h x (by simp [hx])
      have := h a (by simp)
      simp only [List.sum_cons, List.length_cons, Nat.add_mul, Nat.one_mul]
      omega
  have hcs2 : cs.sum ≤ big := by
    have := sum_le cs _ hle
    have : cs.length * (11 * (252 * 20 ^ 10 * 20)) ≤ 4 * (11 * (252 * 20 ^ 10 * 20)) := Nat.mul_le_mul_right _ (by omega)
    omega
  -- the program's
  have A : ∃ r, Ints r cs ∧ ∀ q, Fn prog lift_shared.f [r] q → Fn prog lift_Child.f [lv g n p R, .int z, .int e] (qer q) := by
    have loop : ∀ (t x : Nat) (x' : Int) (acc : V), t + x = k → x' = x → Ints acc (cs.take x) → ∃ r, Ints r cs ∧ ∀ q, Fn prog lift_shared.f [r] q → Comes lift_Child.K lift_Child.f lift_Child.s1 ⟨[x'], [], [lv g n p R, .int z, .int e, .list [cv (lv g n p R) z e (-1), .int 0], acc]⟩ (qer q) := by
      intro t
      induction t with
      | zero =>
        intro x x' acc ht hx ha
        have : x = cs.length := by omega
        subst hx this
        rw [List.take_length] at ha
        refine ⟨acc, ha, fun q hq => ?_⟩
        by_cases hn : q = .nil
        · subst hn
          refine Comes.last progOk lift_Child.p3 [.nil] ?_ rfl
          simp only [EvOk, E.b, E.i, E.v, Env.ext, evL]
          rw [l3, h0l]
          exact ⟨by omega, hq, rfl⟩
        · rw [qer_ne hn]
          refine Comes.last progOk lift_Child.p4 [q] ?_ rfl
          simp only [EvOk, E.b, E.i, E.v, Env.ext, evL]
          rw [l3, h0l]
          refine ⟨by omega, hq, ?_⟩
          cases q <;> first | rfl | exact absurd rfl hn
      | succ t ih =>
        intro x x' acc ht hx ha
        subst hx
        have hal := ha.len
        rw [List.length_take, hcl, Nat.min_eq_left (by omega)] at hal
        obtain ⟨w, w1, w2⟩ := weights_spec L (z := z) (e := e) (m := m) (c := (x : Int)) hzem (by omega)
        have wl := w1.len
        have hl := wts_len g n p rowsN x e m
        have hSx := wts_sum_le L x (e := e) (m := m) (by omega)
        obtain ⟨r, hr, nx⟩ := ih (x + 1) ((x : Int) + 1) (acc.snoc (.int ((wts g n p rowsN x e m).sum : Nat))) (by omega) (by omega) (by rw [List.take_add_one, hci x (by omega)]; exact ha.snoc _)
        refine ⟨r, hr, fun q hq => ?_⟩
        have nx := nx q hq
        have inner : ∀ (t j : Nat) (s' j' : Int), t + j = n + 1 → j' = j → s' = (((wts g n p rowsN x e m).take j).sum : Nat) → Comes lift_Child.K lift_Child.f lift_Child.s3 ⟨[s', j', 0, 0, x, w.len, x], [], [lv g n p R, .int z, .int e, .list [cv (lv g n p R) z e (-1), .int 0], .list [.int x], w, w, .list [.int x], acc]⟩ (qer q) := by
          intro t
          induction t with
          | zero =>
            intro j s' j' ht hj hs'
            have : j = (wts g n p rowsN x e m).length := by omega
            subst hj hs'
            rw [this, List.take_length]
            have nx' : Comes lift_Child.K lift_Child.f lift_Child.s1 ⟨[(x : Int) + 1], [], [lv g n p R, .int z, .int e, .list [cv (lv g n p R) z e (-1), .int 0], acc.snoc (.int (0 + ((wts g n p rowsN x e m).sum : Nat)))]⟩ (qer q) := by rw [Int.zero_add]; exact nx
            have a2 : Comes lift_Child.K lift_Child.f lift_Child.s2 ⟨[0 + 1, 0 + ((wts g n p rowsN x e m).sum : Nat), x], [], [lv g n p R, .int z, .int e, .list [cv (lv g n p R) z e (-1), .int 0], .list [.int x], acc]⟩ (qer q) := by
              refine Comes.step progOk lift_Child.p6 [] ?_ nx'
              simp only [EvOk, E.b, E.i, E.v, Env.ext, evL]; simp only [hal]; omega
            refine Comes.step progOk lift_Child.p8 [] ?_ a2
            simp only [EvOk, E.b, E.i, E.v, Env.ext, evL]; simp only [wl, hl, and_true, true_and]; omega
          | succ t ih2 =>
            intro j s' j' ht hj hs'
            subst hj hs'
            obtain ⟨d, hd⟩ : ∃ e', (wts g n p rowsN x e m)[j]? = some e' := ⟨_, List.getElem?_eq_getElem (by omega)⟩
            have gd := w1.get hd
            have h1 := sum_take _ j d hd
            have h2 := take_sum_le (wts g n p rowsN x e m) (j + 1)
            have nx2 := ih2 (j + 1) ((((wts g n p rowsN x e m).take j).sum : Nat) + (w.get (j : Int)).toI) ((j : Int) + 1) (by omega) (by omega) (by rw [gd, h1]; omega)
            refine Comes.step progOk lift_Child.p7 [] ?_ nx2
            simp only [EvOk, E.b, E.i, E.v, Env.ext, evL]; simp only [wl, gd, hl, and_true, true_and]; omega
        have b2 : Comes lift_Child.K lift_Child.f lift_Child.s2 ⟨[0, 0, x], [], [lv g n p R, .int z, .int e, .list [cv (lv g n p R) z e (-1), .int 0], .list [.int x], acc]⟩ (qer q) := by
          refine Comes.step progOk lift_Child.p5 [w] ?_ (inner (n + 1) 0 0 0 (by omega) rfl rfl)
          simp only [EvOk, E.b, E.i, E.v, Env.ext, evL]
          have l1 : (V.list [V.int (x : Int)]).len = 1 := rfl
          rw [l1]
          exact ⟨by decide, by decide, by decide, w2⟩
        refine Comes.step progOk lift_Child.p2 [] ?_ b2
        simp only [EvOk, E.b, E.i, E.v, Env.ext, evL]; rw [l3, h0l]; omega
    obtain ⟨r, hr, nx⟩ := loop k 0 0 .nil (by omega) rfl (by simp [Ints, V.els])
    refine ⟨r, hr, fun q hq => Fn.of (C := lift_Child.K) lift_Child.b (Comes.step progOk lift_Child.p1 [.list [cv (lv g n p R) z e (-1), .int 0]] ?_ (nx q hq))⟩
    simp only [EvOk, E.b, E.i, E.v, Env.ext, evL]
    refine ⟨hcnt, rfl, ?_⟩
    rw [l3, hR]; omega
  -- the reference's
  have B : ∃ r, Ints r cs ∧ (∀ q, Fn prog ref14_Shared.f [r] q → cs.sum ≠ 0 → Fn prog ref14_Child.f [lv g n p R, .int z, .int e] (.list [q, .int 0])) ∧ (cs.sum = 0 → Fn prog ref14_Child.f [lv g n p R, .int z, .int e] (.list [.nil, .int 7])) := by
    have loop : ∀ (t x : Nat) (x' : Int) (acc : V), t + x = k → x' = x → Ints acc (cs.take x) → ∃ r, Ints r cs ∧ (∀ q, Fn prog ref14_Shared.f [r] q → cs.sum ≠ 0 → Comes ref14_Child.K ref14_Child.f ref14_Child.s1 ⟨[x'], [], [lv g n p R, .int z, .int e, .int 0, acc]⟩ (.list [q, .int 0])) ∧ (cs.sum = 0 → Comes ref14_Child.K ref14_Child.f ref14_Child.s1 ⟨[x'], [], [lv g n p R, .int z, .int e, .int 0, acc]⟩ (.list [.nil, .int 7])) := by
      intro t
      induction t with
      | zero =>
        intro x x' acc ht hx ha
        have : x = cs.length := by omega
        subst hx this
        rw [List.take_length] at ha
        have hT := Total_spec ha (by omega) hcs2
        refine ⟨acc, ha, fun q hq h0 => ?_, fun h0 => ?_⟩
        · refine Comes.last progOk ref14_Child.p4 [.int (cs.sum : Nat), q] ?_ rfl
          simp only [EvOk, E.b, E.i, E.v, Env.ext, evL]
          rw [l3, h0l, hR]
          exact ⟨by omega, by omega, hT, by omega, hq⟩
        · refine Comes.last progOk ref14_Child.p3 [.int (cs.sum : Nat)] ?_ rfl
          simp only [EvOk, E.b, E.i, E.v, Env.ext, evL]
          rw [l3, h0l, hR]
          exact ⟨by omega, by omega, hT, by omega⟩
      | succ t ih =>
        intro x x' acc ht hx ha
        subst hx
        have hal := ha.len
        rw [List.length_take, hcl, Nat.min_eq_left (by omega)] at hal
        obtain ⟨w, w1, w2⟩ := Weights_spec L (z := z) (e := e) (m := m) (c := (x : Int)) hzem (by omega) (by omega)
        have hl := wts_len g n p rowsN x e m
        have hSx := wts_sum_le L x (e := e) (m := m) (by omega)
        have hT := Total_spec w1 (by omega) (Nat.le_trans hSx hbigS)
        obtain ⟨r, hr, n1, n2⟩ := ih (x + 1) ((x : Int) + 1) (acc.snoc (.int ((wts g n p rowsN x e m).sum : Nat))) (by omega) (by omega) (by rw [List.take_add_one, hci x (by omega)]; exact ha.snoc _)
        have hev : EvOk prog (Env.ext ⟨[(x : Int)], [], [lv g n p R, .int z, .int e, .int 0, acc]⟩ [w, .int ((wts g n p rowsN x e m).sum : Nat)]) 5 [] := trivial
        refine ⟨r, hr, fun q hq h0 => Comes.step progOk ref14_Child.p2 [w, .int ((wts g n p rowsN x e m).sum : Nat)] ?_ (n1 q hq h0), fun h0 => Comes.step progOk ref14_Child.p2 [w, .int ((wts g n p rowsN x e m).sum : Nat)] ?_ (n2 h0)⟩
        · simp only [EvOk, E.b, E.i, E.v, Env.ext, evL]
          rw [l3, h0l, hR, hal]
          exact ⟨by omega, by omega, w2, hT, by omega, by omega⟩
        · simp only [EvOk, E.b, E.i, E.v, Env.ext, evL]
          rw [l3, h0l, hR, hal]
          exact ⟨by omega, by omega, w2, hT, by omega, by omega⟩
    obtain ⟨r, hr, n1, n2⟩ := loop k 0 0 .nil (by omega) rfl (by simp [Ints, V.els])
    refine ⟨r, hr, fun q hq h0 => Fn.of (C := ref14_Child.K) ref14_Child.b (Comes.step progOk ref14_Child.p1 [.int 0] ?_ (n1 q hq h0)), fun h0 => Fn.of (C := ref14_Child.K) ref14_Child.b (Comes.step progOk ref14_Child.p1 [.int 0] ?_ (n2 h0))⟩
    · simp only [EvOk, E.b, E.i, E.v, Env.ext, evL]; exact hE
    · simp only [EvOk, E.b, E.i, E.v, Env.ext, evL]; exact hE
  obtain ⟨r, hr, fA⟩ := A
  obtain ⟨r', hr', fB1, fB2⟩ := B
  obtain ⟨q, q1, q2⟩ := shared_spec hr (by omega) hcs2
  have fA := fA q q1
  by_cases h0 : cs.sum = 0
  · rw [if_pos h0] at q2
    subst q2
    exact ⟨.nil, 7, by decide, fA, fB2 h0⟩
  · rw [if_neg h0] at q2
    obtain ⟨qe, qk⟩ := q2
    obtain ⟨ql, rfl⟩ := qk (by omega)
    rw [qer_ne (by intro h; cases h)] at fA
    have hSh := SharedR_spec hr' (by omega) hcs2 (by omega)
    rw [← qe] at hSh
    refine ⟨.list ql, 0, ?_, fA, fB1 _ hSh h0⟩
    simp only [V.len, qe, List.length_map, hcl]; omega
end X
namespace X
open Go Go.Abs Go.Sym
set_option linter.unusedVariables false
set_option linter.unusedSimpArgs false

theorem next_inner {G C o i : Int} {R : V} {rows : List (List Int)} (M : GMod G C o R rows) (hi : 0 ≤ i) (hi2 : i ≤ 2) {v0 v1 v2 v4 v5 v6 r : V} (a b d z e ch : Int)
    (nx : Comes LiftNext.K LiftNext.f LiftNext.s1 ⟨[i + 1], [], [v0, v1, v2, .list [.int a, .int b, .int d], v4, v5]⟩ r) :
    Comes LiftNext.K LiftNext.f LiftNext.s2 ⟨[0, G, C, o, i], [], [v0, v1, v2, .list [.int a, .int b, .int d], v4, v5, v6, .list [.int z, .int e, .int ch], R]⟩ r := by
  have x2 : Comes LiftNext.K LiftNext.f LiftNext.s2 ⟨[2, G, C, o, i], [], [v0, v1, v2, .list [.int a, .int b, .int d], v4, v5, v6, .list [.int z, .int e, .int ch], R]⟩ r := by
    refine Comes.step progOk LiftNext.p16 [] ?_ nx
    simp only [EvOk, E.b, E.i, E.v, Env.ext, evL]; omega
  have x1 : Comes LiftNext.K LiftNext.f LiftNext.s2 ⟨[1, G, C, o, i], [], [v0, v1, v2, .list [.int a, .int b, .int d], v4, v5, v6, .list [.int z, .int e, .int ch], R]⟩ r := by
    obtain ⟨q, er, f18, f19⟩ := Next_agree M z e ch
    obtain ⟨q', er', hq, f20, f21⟩ := Child_agree M z e
    have f22 := equalQ_refl q' (by omega)
    refine Comes.step progOk LiftNext.p15 [.list [q, .int er], .list [q, .int er], .list [q', .int er'], .list [q', .int er'], .bool true] ?_ x2
    simp only [EvOk, E.b, E.i, E.v, Env.ext, evL]
    exact ⟨by omega, by omega, f18, f19, f20, f21, f22⟩
  obtain ⟨q, er, f18, f19⟩ := Next_agree M a b d
  obtain ⟨q', er', hq, f20, f21⟩ := Child_agree M a b
  have f22 := equalQ_refl q' (by omega)
  refine Comes.step progOk LiftNext.p10 [.list [q, .int er], .list [q, .int er], .list [q', .int er'], .list [q', .int er'], .bool true] ?_ x1
  simp only [EvOk, E.b, E.i, E.v, Env.ext, evL]
  exact ⟨by omega, f18, f19, f20, f21, f22⟩

theorem LiftNext_spec {g c o w : Nat} {L : V} {l : List Nat} (hg : g ≤ 255) (hc : c ≤ 255) (ho : o ≤ 255) (hw : w ≤ 255) (hL : Ints L l) (hl : ∀ x ∈ l, x ≤ 255) (hll : l.length ≤ 9223372036854775807)
    {bw bj ba : Nat} {N : Int} (hbj : bj ≤ 255) (hba : ba ≤ 255) (hN1 : -9223372036854775808 ≤ N) (hN2 : N ≤ 9223372036854775807)
    {rG rC ro : Int} {rR : V} {rrows : List (List Int)} (tab : Tab rR rrows) (hC1 : -9223372036854775808 ≤ rC) (hC2 : rC ≤ 9223372036854775807) (a b d : Int) :
    Fn prog LiftNext.f [.list [.int g, .int c, .int o, .int w, L], .list [.int bw, .int bj, .int ba, .int N], gm rG rC ro rR, .list [.int a, .int b, .int d]] (.bool true) := by
  obtain ⟨G0, C0, o0, R0, rows0, G1, C1, o1, R1, rows1, R2, rows2, M0, M1, M2, f10⟩ := models_spec hg hc ho hw hL hl hll hbj hba hN1 hN2 (rG := rG) (ro := ro) tab hC1 hC2 (bw := bw)
  obtain ⟨R, n', rows, M, hn', f17⟩ := DraftLift_spec hg hc ho hw hL hl hll
  subst hn'
  obtain ⟨z, e, ch, hze, hc1, hc2, f16⟩ := KnownOf_spec M a b d
  refine Fn.of (C := LiftNext.K) LiftNext.b (Comes.step progOk LiftNext.p1 [.bool true, .list [gm G0 C0 o0 R0, gm G1 C1 o1 R1, gm rG rC ro R2]] ?_ ?_)
  · simp only [EvOk, E.b, E.i, E.v, Env.ext, evL]
    exact ⟨wakes_spec, f10⟩
  have y3 : Comes LiftNext.K LiftNext.f LiftNext.s1 ⟨[3], [], [.list [.int g, .int c, .int o, .int w, L], .list [.int bw, .int bj, .int ba, .int N], gm rG rC ro rR, .list [.int a, .int b, .int d], .bool true, .list [gm G0 C0 o0 R0, gm G1 C1 o1 R1, gm rG rC ro R2]]⟩ (.bool true) := by
    refine Comes.last progOk LiftNext.p5 [] ?_ rfl
    simp only [EvOk, E.b, E.i, E.v, Env.ext, evL]; omega
  have y2 : Comes LiftNext.K LiftNext.f LiftNext.s1 ⟨[2], [], [.list [.int g, .int c, .int o, .int w, L], .list [.int bw, .int bj, .int ba, .int N], gm rG rC ro rR, .list [.int a, .int b, .int d], .bool true, .list [gm G0 C0 o0 R0, gm G1 C1 o1 R1, gm rG rC ro R2]]⟩ (.bool true) := by
    refine Comes.step progOk LiftNext.p4 [lv (1 + g % 20) (1 + c % 10) (o % (1 + g % 20 + 1)) R, .list [.int z, .int e, .int ch]] ?_ (next_inner M2 (i := 2) (by omega) (by omega) a b d z e ch y3)
    simp only [EvOk, E.b, E.i, E.v, Env.ext, evL]
    exact ⟨by omega, by omega, by omega, f17, f16⟩
  have y1 : Comes LiftNext.K LiftNext.f LiftNext.s1 ⟨[1], [], [.list [.int g, .int c, .int o, .int w, L], .list [.int bw, .int bj, .int ba, .int N], gm rG rC ro rR, .list [.int a, .int b, .int d], .bool true, .list [gm G0 C0 o0 R0, gm G1 C1 o1 R1, gm rG rC ro R2]]⟩ (.bool true) := by
    refine Comes.step progOk LiftNext.p3 [lv (1 + g % 20) (1 + c % 10) (o % (1 + g % 20 + 1)) R, .list [.int z, .int e, .int ch]] ?_ (next_inner M1 (i := 1) (by omega) (by omega) a b d z e ch y2)
    simp only [EvOk, E.b, E.i, E.v, Env.ext, evL]
    exact ⟨by omega, by omega, f17, f16⟩
  have y0 : Comes LiftNext.K LiftNext.f LiftNext.s1 ⟨[0], [], [.list [.int g, .int c, .int o, .int w, L], .list [.int bw, .int bj, .int ba, .int N], gm rG rC ro rR, .list [.int a, .int b, .int d], .bool true, .list [gm G0 C0 o0 R0, gm G1 C1 o1 R1, gm rG rC ro R2]]⟩ (.bool true) := by
    refine Comes.step progOk LiftNext.p2 [lv (1 + g % 20) (1 + c % 10) (o % (1 + g % 20 + 1)) R, .list [.int z, .int e, .int ch]] ?_ (next_inner M0 (i := 0) (by omega) (by omega) a b d z e ch y1)
    simp only [EvOk, E.b, E.i, E.v, Env.ext, evL]
    exact ⟨by omega, f17, f16⟩
  exact y0
end X
namespace Go.Sym
open Go Go.Abs
theorem WT.struct {P : Program} {d : Nat} {t : TypeId} {x : V} {fields : Array Field} (hu : P.underlying t = some (.struct fields)) (h : WT P (d + 1) t x) : ∃ xs, x = .list xs ∧ xs.length = fields.toList.length ∧ ∀ (i : Nat) f y, fields.toList[i]? = some f → xs[i]? = some y → WT P d f.type y := by
  unfold WT at h; rw [hu] at h; exact h
theorem WT.intv {P : Program} {d : Nat} {t : TypeId} {x : V} {k : IntKind} (hu : P.underlying t = some (.int k)) (h : WT P (d + 1) t x) : ∃ n, x = .int n ∧ k.min ≤ n ∧ n ≤ k.max := by
  unfold WT at h; rw [hu] at h; exact h
theorem WT.slice {P : Program} {d : Nat} {t et : TypeId} {x : V} (hu : P.underlying t = some (.slice et)) (h : WT P (d + 1) t x) : x = .nil ∨ ∃ l, x = .list l ∧ l.length ≤ Go.maxLen ∧ ∀ y ∈ l, WT P d et y := by
  unfold WT at h; rw [hu] at h; exact h
end Go.Sym
namespace Go.Proofs.Ytildjgdhdcoojaa.Par
set_option linter.unusedVariables false
open Go.Sym (WT WTs V Ints)
open X (Zs Tab TabL gm)

set_option maxRecDepth 100000 in
theorem ints_of {d : Nat} {x : V} (h : WT Try.prog (d + 2) 22 x) : ∃ l : List Nat, Ints x l ∧ (∀ y ∈ l, y ≤ 255) ∧ l.length ≤ Go.maxLen := by
  rcases WT.slice Try.underlying22 h with rfl | ⟨l, rfl, hl, hy⟩
  · exact ⟨[], rfl, by simp, by simp⟩
  · clear h
    induction l with
    | nil => exact ⟨[], rfl, by simp, by simp⟩
    | cons a l ih =>
      obtain ⟨k, k1, k2, k3⟩ := ih (by simp at hl; omega) (fun y hm => hy y (by simp [hm]))
      obtain ⟨n, rfl, h1, h2⟩ := WT.intv Try.underlying5 (hy a (by simp))
      have h1' : (0 : Int) ≤ n := h1
      have h2' : n ≤ 255 := h2
      obtain ⟨m, rfl⟩ : ∃ m : Nat, n = m := ⟨n.toNat, by omega⟩
      refine ⟨m :: k, ?_, ?_, ?_⟩
      · unfold Ints at *
        simp only [V.els, List.map_cons] at *
        rw [k1]; rfl
      · intro y hy'
        rcases List.mem_cons.1 hy' with rfl | q
        · omega
        · exact k2 y q
      · have : l.length = k.length := by
          unfold Ints at k1
          simp only [V.els] at k1
          rw [k1]; simp
        simp only [List.length_cons] at *
        omega
set_option maxRecDepth 100000 in
theorem zs_of {d : Nat} {x : V} (h : WT Try.prog (d + 2) 64 x) : ∃ l : List Int, Zs x l := by
  rcases WT.slice Try.underlying64 h with rfl | ⟨l, rfl, hl, hy⟩
  · exact ⟨[], rfl⟩
  · clear h
    induction l with
    | nil => exact ⟨[], rfl⟩
    | cons a l ih =>
      obtain ⟨k, k1⟩ := ih (by simp at hl; omega) (fun y hm => hy y (by simp [hm]))
      obtain ⟨n, rfl, h1, h2⟩ := WT.intv Try.underlying3 (hy a (by simp))
      refine ⟨n :: k, ?_⟩
      unfold Zs at *
      simp only [V.els, List.map_cons] at *
      rw [k1]
set_option maxRecDepth 100000 in
theorem tab_of {d : Nat} {x : V} (h : WT Try.prog (d + 3) 27 x) : ∃ rows, Tab x rows := by
  rcases WT.slice Try.underlying27 h with rfl | ⟨l, rfl, hl, hy⟩
  · exact ⟨[], X.tab_nil⟩
  · clear h
    suffices hh : ∃ rows, TabL l rows by
      obtain ⟨rows, hr⟩ := hh
      exact ⟨rows, X.tab_iff.2 hr⟩
    induction l with
    | nil => exact ⟨[], trivial⟩
    | cons a l ih =>
      obtain ⟨rows, k1⟩ := ih (by simp at hl; omega) (fun y hm => hy y (by simp [hm]))
      obtain ⟨r, hr⟩ := zs_of (hy a (by simp))
      exact ⟨r :: rows, hr, k1⟩
set_option maxRecDepth 100000 in
theorem draft_of {k : Nat} {x : V} (h : WT Try.prog (k + 4) 24 x) : ∃ (a b c d : Nat) (e : V) (l : List Nat), x = .list [.int a, .int b, .int c, .int d, e] ∧ a ≤ 255 ∧ b ≤ 255 ∧ c ≤ 255 ∧ d ≤ 255 ∧ Ints e l ∧ (∀ y ∈ l, y ≤ 255) ∧ l.length ≤ 9223372036854775807 := by
  obtain ⟨xs, rfl, l0, f0⟩ := WT.struct Try.underlying24 h
  match xs, l0 with
  | [a, b, c, d, e], _ =>
  obtain ⟨a, rfl, a1, a2⟩ := WT.intv Try.underlying5 (f0 0 _ _ rfl rfl)
  obtain ⟨b, rfl, b1, b2⟩ := WT.intv Try.underlying5 (f0 1 _ _ rfl rfl)
  obtain ⟨c, rfl, c1, c2⟩ := WT.intv Try.underlying5 (f0 2 _ _ rfl rfl)
  obtain ⟨d, rfl, d1, d2⟩ := WT.intv Try.underlying5 (f0 3 _ _ rfl rfl)
  obtain ⟨l, i1, i2, i3⟩ := ints_of (f0 4 _ _ rfl rfl)
  have a1 : (0 : Int) ≤ a := a1
  have a2 : a ≤ 255 := a2
  have b1 : (0 : Int) ≤ b := b1
  have b2 : b ≤ 255 := b2
  have c1 : (0 : Int) ≤ c := c1
  have c2 : c ≤ 255 := c2
  have d1 : (0 : Int) ≤ d := d1
  have d2 : d ≤ 255 := d2
  obtain ⟨a, rfl⟩ : ∃ m : Nat, a = m := ⟨a.toNat, by omega⟩
  obtain ⟨b, rfl⟩ : ∃ m : Nat, b = m := ⟨b.toNat, by omega⟩
  obtain ⟨c, rfl⟩ : ∃ m : Nat, c = m := ⟨c.toNat, by omega⟩
  obtain ⟨d, rfl⟩ : ∃ m : Nat, d = m := ⟨d.toNat, by omega⟩
  have hm : Go.maxLen ≤ 9223372036854775807 := by decide
  exact ⟨a, b, c, d, e, l, rfl, by omega, by omega, by omega, by omega, i1, i2, by omega⟩
set_option maxRecDepth 100000 in
theorem bend_of {k : Nat} {x : V} (h : WT Try.prog (k + 4) 26 x) : ∃ (a b c : Nat) (d : Int), x = .list [.int a, .int b, .int c, .int d] ∧ a ≤ 255 ∧ b ≤ 255 ∧ c ≤ 255 ∧ -9223372036854775808 ≤ d ∧ d ≤ 9223372036854775807 := by
  obtain ⟨xs, rfl, l0, f0⟩ := WT.struct Try.underlying26 h
  match xs, l0 with
  | [a, b, c, d], _ =>
  obtain ⟨a, rfl, a1, a2⟩ := WT.intv Try.underlying5 (f0 0 _ _ rfl rfl)
  obtain ⟨b, rfl, b1, b2⟩ := WT.intv Try.underlying5 (f0 1 _ _ rfl rfl)
  obtain ⟨c, rfl, c1, c2⟩ := WT.intv Try.underlying5 (f0 2 _ _ rfl rfl)
  obtain ⟨d, rfl, d1, d2⟩ := WT.intv Try.underlying3 (f0 3 _ _ rfl rfl)
  have a1 : (0 : Int) ≤ a := a1
  have a2 : a ≤ 255 := a2
  have b1 : (0 : Int) ≤ b := b1
  have b2 : b ≤ 255 := b2
  have c1 : (0 : Int) ≤ c := c1
  have c2 : c ≤ 255 := c2
  have d1 : (-9223372036854775808 : Int) ≤ d := d1
  have d2 : d ≤ 9223372036854775807 := d2
  obtain ⟨a, rfl⟩ : ∃ m : Nat, a = m := ⟨a.toNat, by omega⟩
  obtain ⟨b, rfl⟩ : ∃ m : Nat, b = m := ⟨b.toNat, by omega⟩
  obtain ⟨c, rfl⟩ : ∃ m : Nat, c = m := ⟨c.toNat, by omega⟩
  exact ⟨a, b, c, d, rfl, by omega, by omega, by omega, d1, d2⟩
set_option maxRecDepth 100000 in
theorem known_of {k : Nat} {x : V} (h : WT Try.prog (k + 4) 45 x) : ∃ (a b d : Int), x = .list [.int a, .int b, .int d] ∧ -9223372036854775808 ≤ a ∧ a ≤ 9223372036854775807 ∧ -9223372036854775808 ≤ b ∧ b ≤ 9223372036854775807 ∧ -9223372036854775808 ≤ d ∧ d ≤ 9223372036854775807 := by
  obtain ⟨xs, rfl, l0, f0⟩ := WT.struct Try.underlying45 h
  match xs, l0 with
  | [a, b, d], _ =>
  obtain ⟨a, rfl, a1, a2⟩ := WT.intv Try.underlying3 (f0 0 _ _ rfl rfl)
  obtain ⟨b, rfl, b1, b2⟩ := WT.intv Try.underlying3 (f0 1 _ _ rfl rfl)
  obtain ⟨d, rfl, d1, d2⟩ := WT.intv Try.underlying3 (f0 2 _ _ rfl rfl)
  exact ⟨a, b, d, rfl, a1, a2, b1, b2, d1, d2⟩
set_option maxRecDepth 100000 in
theorem raw_of {k : Nat} {x : V} (h : WT Try.prog (k + 4) 29 x) : ∃ (G C o : Int) (R : V) (rows : List (List Int)), x = gm G C o R ∧ Tab R rows ∧ -9223372036854775808 ≤ G ∧ G ≤ 9223372036854775807 ∧ -9223372036854775808 ≤ C ∧ C ≤ 9223372036854775807 ∧ -9223372036854775808 ≤ o ∧ o ≤ 9223372036854775807 := by
  obtain ⟨xs, rfl, l0, f0⟩ := WT.struct Try.underlying29 h
  match xs, l0 with
  | [a, b, c, d], _ =>
  obtain ⟨a, rfl, a1, a2⟩ := WT.intv Try.underlying3 (f0 0 _ _ rfl rfl)
  obtain ⟨b, rfl, b1, b2⟩ := WT.intv Try.underlying3 (f0 1 _ _ rfl rfl)
  obtain ⟨c, rfl, c1, c2⟩ := WT.intv Try.underlying3 (f0 2 _ _ rfl rfl)
  obtain ⟨rows, hr⟩ := tab_of (f0 3 _ _ rfl rfl)
  exact ⟨a, b, c, d, rows, rfl, hr, a1, a2, b1, b2, c1, c2⟩
end Go.Proofs.Ytildjgdhdcoojaa.Par
