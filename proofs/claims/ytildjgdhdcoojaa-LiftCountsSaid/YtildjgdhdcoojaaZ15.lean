/- Texts of the claim: Lift14, WTt, Par. -/
import Derived.Test.YtildjgdhdcoojaaZ12
import Derived.Test.YtildjgdhdcoojaaZ14
import Derived.Test.YtildjgdhdcoojaaZ10
import Derived.Test.YtildjgdhdcoojaaRows
import Derived.WalkKit
namespace X
open Go Go.Abs Go.Sym
set_option linter.unusedVariables false
set_option linter.unusedSimpArgs false

theorem models_spec {g c o w : Nat} {L : V} {l : List Nat} (hg : g ≤ 255) (hc : c ≤ 255) (ho : o ≤ 255) (hw : w ≤ 255) (hL : Ints L l) (hl : ∀ x ∈ l, x ≤ 255) (hll : l.length ≤ 9223372036854775807)
    {bw bj ba : Nat} {N : Int} (hbj : bj ≤ 255) (hba : ba ≤ 255) (hN1 : -9223372036854775808 ≤ N) (hN2 : N ≤ 9223372036854775807)
    {rG rC ro : Int} {rR : V} {rrows : List (List Int)} (tab : Tab rR rrows) (hC1 : -9223372036854775808 ≤ rC) (hC2 : rC ≤ 9223372036854775807) :
    ∃ G0 C0 o0 R0 rows0 G1 C1 o1 R1 rows1 R2 rows2, GMod G0 C0 o0 R0 rows0 ∧ GMod G1 C1 o1 R1 rows1 ∧ GMod rG rC ro R2 rows2 ∧
      Fn prog models.f [.list [.int g, .int c, .int o, .int w, L], .list [.int bw, .int bj, .int ba, .int N], gm rG rC ro rR] (.list [gm G0 C0 o0 R0, gm G1 C1 o1 R1, gm rG rC ro R2]) := by
  obtain ⟨R, n', rows, M, hn', f17⟩ := DraftLift_spec hg hc ho hw hL hl hll
  subst hn'
  obtain ⟨G1, C1, o1, R1, rows1, M1, f35⟩ := BendOf_spec M (w := bw) hbj hba hN1 hN2
  obtain ⟨R2, rows2, M2, f36⟩ := few_spec (G := rG) (o := ro) tab hC1 hC2
  refine ⟨_, _, _, R, _, G1, C1, o1, R1, rows1, R2, rows2, M.gmod, M1, M2, ?_⟩
  refine Fn.of (C := models.K) models.b (Comes.last progOk models.p0 [lv (1 + g % 20) (1 + c % 10) (o % (1 + g % 20 + 1)) R, gm G1 C1 o1 R1, gm rG rC ro R2] ?_ rfl)
  simp only [EvOk, E.b, E.i, E.v, Env.ext, List.map_cons, List.map_nil, List.cons_append, List.nil_append, List.append_nil, List.getD_cons_zero, List.getD_cons_succ, toI_int', toB_bool', ltB_iff, leB_iff, eqB_iff, eqB_not, ltB_not, leB_not, Bool.not_eq_true', Bool.not_eq_false', Bool.not_not, Bool.and_eq_true, and_true, true_and]
  exact ⟨f17, f35, f36⟩
theorem counts_inner {G C o i : Int} {R : V} {rows : List (List Int)} (M : GMod G C o R rows) (hi : 0 ≤ i) (hi2 : i ≤ 2) {v0 v1 v2 v4 v5 v6 r : V} (a b d z e ch : Int)
    (nx : Comes LiftCounts.K LiftCounts.f LiftCounts.s1 ⟨[i + 1], [], [v0, v1, v2, .list [.int a, .int b, .int d], v4, v5]⟩ r) :
    Comes LiftCounts.K LiftCounts.f LiftCounts.s2 ⟨[0, G, C, o, i], [], [v0, v1, v2, .list [.int a, .int b, .int d], v4, v5, v6, .list [.int z, .int e, .int ch], R]⟩ r := by
  have x2 : Comes LiftCounts.K LiftCounts.f LiftCounts.s2 ⟨[2, G, C, o, i], [], [v0, v1, v2, .list [.int a, .int b, .int d], v4, v5, v6, .list [.int z, .int e, .int ch], R]⟩ r := by
    refine Comes.step progOk LiftCounts.p16 [] ?_ nx
    simp only [EvOk, E.b, E.i, E.v, Env.ext, List.map_cons, List.map_nil, List.cons_append, List.nil_append, List.append_nil, List.getD_cons_zero, List.getD_cons_succ, toI_int', toB_bool', ltB_iff, leB_iff, eqB_iff, eqB_not, ltB_not, leB_not, Bool.not_eq_true', Bool.not_eq_false', Bool.not_not, Bool.and_eq_true, and_true, true_and]; omega
  have x1 : Comes LiftCounts.K LiftCounts.f LiftCounts.s2 ⟨[1, G, C, o, i], [], [v0, v1, v2, .list [.int a, .int b, .int d], v4, v5, v6, .list [.int z, .int e, .int ch], R]⟩ r := by
    obtain ⟨q, er, f18, f19⟩ := Prob_agree M z e ch
    obtain ⟨q', er', hq, f20, f21⟩ := Ones_agree M z e ch
    have f22 := equalQ_refl q' (by omega)
    refine Comes.step progOk LiftCounts.p15 [.list [q, .int er], .list [q, .int er], .list [q', .int er'], .list [q', .int er'], .bool true] ?_ x2
    simp only [EvOk, E.b, E.i, E.v, Env.ext, List.map_cons, List.map_nil, List.cons_append, List.nil_append, List.append_nil, List.getD_cons_zero, List.getD_cons_succ, toI_int', toB_bool', ltB_iff, leB_iff, eqB_iff, eqB_not, ltB_not, leB_not, Bool.not_eq_true', Bool.not_eq_false', Bool.not_not, Bool.and_eq_true, and_true, true_and]
    exact ⟨by omega, by omega, f18, f19, f20, f21, f22⟩
  obtain ⟨q, er, f18, f19⟩ := Prob_agree M a b d
  obtain ⟨q', er', hq, f20, f21⟩ := Ones_agree M a b d
  have f22 := equalQ_refl q' (by omega)
  refine Comes.step progOk LiftCounts.p10 [.list [q, .int er], .list [q, .int er], .list [q', .int er'], .list [q', .int er'], .bool true] ?_ x1
  simp only [EvOk, E.b, E.i, E.v, Env.ext, List.map_cons, List.map_nil, List.cons_append, List.nil_append, List.append_nil, List.getD_cons_zero, List.getD_cons_succ, toI_int', toB_bool', ltB_iff, leB_iff, eqB_iff, eqB_not, ltB_not, leB_not, Bool.not_eq_true', Bool.not_eq_false', Bool.not_not, Bool.and_eq_true, and_true, true_and]
  exact ⟨by omega, f18, f19, f20, f21, f22⟩

theorem LiftCounts_spec {g c o w : Nat} {L : V} {l : List Nat} (hg : g ≤ 255) (hc : c ≤ 255) (ho : o ≤ 255) (hw : w ≤ 255) (hL : Ints L l) (hl : ∀ x ∈ l, x ≤ 255) (hll : l.length ≤ 9223372036854775807)
    {bw bj ba : Nat} {N : Int} (hbj : bj ≤ 255) (hba : ba ≤ 255) (hN1 : -9223372036854775808 ≤ N) (hN2 : N ≤ 9223372036854775807)
    {rG rC ro : Int} {rR : V} {rrows : List (List Int)} (tab : Tab rR rrows) (hC1 : -9223372036854775808 ≤ rC) (hC2 : rC ≤ 9223372036854775807) (a b d : Int) :
    Fn prog LiftCounts.f [.list [.int g, .int c, .int o, .int w, L], .list [.int bw, .int bj, .int ba, .int N], gm rG rC ro rR, .list [.int a, .int b, .int d]] (.bool true) := by
  obtain ⟨G0, C0, o0, R0, rows0, G1, C1, o1, R1, rows1, R2, rows2, M0, M1, M2, f10⟩ := models_spec hg hc ho hw hL hl hll hbj hba hN1 hN2 (rG := rG) (ro := ro) tab hC1 hC2 (bw := bw)
  obtain ⟨R, n', rows, M, hn', f17⟩ := DraftLift_spec hg hc ho hw hL hl hll
  subst hn'
  obtain ⟨z, e, ch, hze, hc1, hc2, f16⟩ := KnownOf_spec M a b d
  refine Fn.of (C := LiftCounts.K) LiftCounts.b (Comes.step progOk LiftCounts.p1 [.bool true, .list [gm G0 C0 o0 R0, gm G1 C1 o1 R1, gm rG rC ro R2]] ?_ ?_)
  · simp only [EvOk, E.b, E.i, E.v, Env.ext, List.map_cons, List.map_nil, List.cons_append, List.nil_append, List.append_nil, List.getD_cons_zero, List.getD_cons_succ, toI_int', toB_bool', ltB_iff, leB_iff, eqB_iff, eqB_not, ltB_not, leB_not, Bool.not_eq_true', Bool.not_eq_false', Bool.not_not, Bool.and_eq_true, and_true, true_and]
    exact ⟨wakes_spec, f10⟩
  have y3 : Comes LiftCounts.K LiftCounts.f LiftCounts.s1 ⟨[3], [], [.list [.int g, .int c, .int o, .int w, L], .list [.int bw, .int bj, .int ba, .int N], gm rG rC ro rR, .list [.int a, .int b, .int d], .bool true, .list [gm G0 C0 o0 R0, gm G1 C1 o1 R1, gm rG rC ro R2]]⟩ (.bool true) := by
    refine Comes.last progOk LiftCounts.p5 [] ?_ rfl
    simp only [EvOk, E.b, E.i, E.v, Env.ext, List.map_cons, List.map_nil, List.cons_append, List.nil_append, List.append_nil, List.getD_cons_zero, List.getD_cons_succ, toI_int', toB_bool', ltB_iff, leB_iff, eqB_iff, eqB_not, ltB_not, leB_not, Bool.not_eq_true', Bool.not_eq_false', Bool.not_not, Bool.and_eq_true, and_true, true_and]; omega
  have y2 : Comes LiftCounts.K LiftCounts.f LiftCounts.s1 ⟨[2], [], [.list [.int g, .int c, .int o, .int w, L], .list [.int bw, .int bj, .int ba, .int N], gm rG rC ro rR, .list [.int a, .int b, .int d], .bool true, .list [gm G0 C0 o0 R0, gm G1 C1 o1 R1, gm rG rC ro R2]]⟩ (.bool true) := by
    refine Comes.step progOk LiftCounts.p4 [lv (1 + g % 20) (1 + c % 10) (o % (1 + g % 20 + 1)) R, .list [.int z, .int e, .int ch]] ?_ (counts_inner M2 (i := 2) (by omega) (by omega) a b d z e ch y3)
    simp only [EvOk, E.b, E.i, E.v, Env.ext, List.map_cons, List.map_nil, List.cons_append, List.nil_append, List.append_nil, List.getD_cons_zero, List.getD_cons_succ, toI_int', toB_bool', ltB_iff, leB_iff, eqB_iff, eqB_not, ltB_not, leB_not, Bool.not_eq_true', Bool.not_eq_false', Bool.not_not, Bool.and_eq_true, and_true, true_and]
    exact ⟨by omega, by omega, by omega, f17, f16⟩
  have y1 : Comes LiftCounts.K LiftCounts.f LiftCounts.s1 ⟨[1], [], [.list [.int g, .int c, .int o, .int w, L], .list [.int bw, .int bj, .int ba, .int N], gm rG rC ro rR, .list [.int a, .int b, .int d], .bool true, .list [gm G0 C0 o0 R0, gm G1 C1 o1 R1, gm rG rC ro R2]]⟩ (.bool true) := by
    refine Comes.step progOk LiftCounts.p3 [lv (1 + g % 20) (1 + c % 10) (o % (1 + g % 20 + 1)) R, .list [.int z, .int e, .int ch]] ?_ (counts_inner M1 (i := 1) (by omega) (by omega) a b d z e ch y2)
    simp only [EvOk, E.b, E.i, E.v, Env.ext, List.map_cons, List.map_nil, List.cons_append, List.nil_append, List.append_nil, List.getD_cons_zero, List.getD_cons_succ, toI_int', toB_bool', ltB_iff, leB_iff, eqB_iff, eqB_not, ltB_not, leB_not, Bool.not_eq_true', Bool.not_eq_false', Bool.not_not, Bool.and_eq_true, and_true, true_and]
    exact ⟨by omega, by omega, f17, f16⟩
  have y0 : Comes LiftCounts.K LiftCounts.f LiftCounts.s1 ⟨[0], [], [.list [.int g, .int c, .int o, .int w, L], .list [.int bw, .int bj, .int ba, .int N], gm rG rC ro rR, .list [.int a, .int b, .int d], .bool true, .list [gm G0 C0 o0 R0, gm G1 C1 o1 R1, gm rG rC ro R2]]⟩ (.bool true) := by
    refine Comes.step progOk LiftCounts.p2 [lv (1 + g % 20) (1 + c % 10) (o % (1 + g % 20 + 1)) R, .list [.int z, .int e, .int ch]] ?_ (counts_inner M0 (i := 0) (by omega) (by omega) a b d z e ch y1)
    simp only [EvOk, E.b, E.i, E.v, Env.ext, List.map_cons, List.map_nil, List.cons_append, List.nil_append, List.append_nil, List.getD_cons_zero, List.getD_cons_succ, toI_int', toB_bool', ltB_iff, leB_iff, eqB_iff, eqB_not, ltB_not, leB_not, Bool.not_eq_true', Bool.not_eq_false', Bool.not_not, Bool.and_eq_true, and_true, true_and]
    exact ⟨by omega, f17, f16⟩
  exact y0
end X
namespace Go.Sym
open Go Go.Abs
theorem WT.struct {P : Program} {d : Nat} {t : TypeId} {x : V} {fields : Array Field} (hu : P.underlying t = some (.struct fields)) (h : WT P (d + 1) t x) : ∃ xs, x = .list xs ∧ xs.length = fields.toList.length ∧ ∀ (i : Nat) f y, fields.toList[i]? = some f → xs[i]? = some y → WT P d f.type y := by
  unfold WT at h; rw [hu] at h; exact h
theorem WT.intv {P : Program} {d : Nat} {t : TypeId} {x : V} {k : IntKind} (hu : P.underlying t = some (.int k)) (h : WT P (d + 1) t x) : ∃ n, x = .int n ∧ k.min ≤ n ∧ n ≤ k.max := by
  unfold WT at h; rw [hu] at h; exact h
theorem WT.slice {P : Program} {d : Nat} {t et : TypeId} {x : V} (hu : P.underlying t = some (.slice et)) (h : WT P (d + 1) t x) : x = .nil ∨ ∃ l, x = .list l ∧ l.length ≤ Go.maxLen ∧ ∀ y ∈ l, WT P d et y := by
  unfold WT at h; rw [hu] at h; exact h
end Go.Sym
namespace Go.Proofs.Ytildjgdhdcoojaa.Par
set_option linter.unusedVariables false
open Go.Sym (WT WTs V Ints)
open X (Zs Tab TabL gm)

set_option maxRecDepth 100000 in
theorem ints_of {d : Nat} {x : V} (h : WT Try.prog (d + 2) 22 x) : ∃ l : List Nat, Ints x l ∧ (∀ y ∈ l, y ≤ 255) ∧ l.length ≤ Go.maxLen := by
  rcases WT.slice Try.underlying22 h with rfl | ⟨l, rfl, hl, hy⟩
  · exact ⟨[], rfl, by simp, by simp⟩
  · clear h
    induction l with
    | nil => exact ⟨[], rfl, by simp, by simp⟩
    | cons a l ih =>
      obtain ⟨k, k1, k2, k3⟩ := ih (by simp at hl; omega) (fun y hm => hy y (by simp [hm]))
      obtain ⟨n, rfl, h1, h2⟩ := WT.intv Try.underlying5 (hy a (by simp))
      have h1' : (0 : Int) ≤ n := h1
      have h2' : n ≤ 255 := h2
      obtain ⟨m, rfl⟩ : ∃ m : Nat, n = m := ⟨n.toNat, by omega⟩
      refine ⟨m :: k, ?_, ?_, ?_⟩
      · unfold Ints at *
        simp only [V.els, List.map_cons] at *
        rw [k1]; rfl
      · intro y hy'
        rcases List.mem_cons.1 hy' with rfl | q
        · omega
        · exact k2 y q
      · have : l.length = k.length := by
          unfold Ints at k1
          simp only [V.els] at k1
          rw [k1]; simp
        simp only [List.length_cons] at *
        omega
set_option maxRecDepth 100000 in
theorem zs_of {d : Nat} {x : V} (h : WT Try.prog (d + 2) 64 x) : ∃ l : List Int, Zs x l := by
  rcases WT.slice Try.underlying64 h with rfl | ⟨l, rfl, hl, hy⟩
  · exact ⟨[], rfl⟩
  · clear h
    induction l with
    | nil => exact ⟨[], rfl⟩
    | cons a l ih =>
      obtain ⟨k, k1⟩ := ih (by simp at hl; omega) (fun y hm => hy y (by simp [hm]))
      obtain ⟨n, rfl, h1, h2⟩ := WT.intv Try.underlying3 (hy a (by simp))
      refine ⟨n :: k, ?_⟩
      unfold Zs at *
      simp only [V.els, List.map_cons] at *
      rw [k1]
set_option maxRecDepth 100000 in
theorem tab_of {d : Nat} {x : V} (h : WT Try.prog (d + 3) 27 x) : ∃ rows, Tab x rows := by
  rcases WT.slice Try.underlying27 h with rfl | ⟨l, rfl, hl, hy⟩
  · exact ⟨[], X.tab_nil⟩
  · clear h
    suffices hh : ∃ rows, TabL l rows by
      obtain ⟨rows, hr⟩ := hh
      exact ⟨rows, X.tab_iff.2 hr⟩
    induction l with
    | nil => exact ⟨[], trivial⟩
    | cons a l ih =>
      obtain ⟨rows, k1⟩ := ih (by simp at hl; omega) (fun y hm => hy y (by simp [hm]))
      obtain ⟨r, hr⟩ := zs_of (hy a (by simp))
      exact ⟨r :: rows, hr, k1⟩
set_option maxRecDepth 100000 in
theorem draft_of {k : Nat} {x : V} (h : WT Try.prog (k + 4) 24 x) : ∃ (a b c d : Nat) (e : V) (l : List Nat), x = .list [.int a, .int b, .int c, .int d, e] ∧ a ≤ 255 ∧ b ≤ 255 ∧ c ≤ 255 ∧ d ≤ 255 ∧ Ints e l ∧ (∀ y ∈ l, y ≤ 255) ∧ l.length ≤ 9223372036854775807 := by
  obtain ⟨xs, rfl, l0, f0⟩ := WT.struct Try.underlying24 h
  match xs, l0 with
  | [a, b, c, d, e], _ =>
  obtain ⟨a, rfl, a1, a2⟩ := WT.intv Try.underlying5 (f0 0 _ _ rfl rfl)
  obtain ⟨b, rfl, b1, b2⟩ := WT.intv Try.underlying5 (f0 1 _ _ rfl rfl)
  obtain ⟨c, rfl, c1, c2⟩ := WT.intv Try.underlying5 (f0 2 _ _ rfl rfl)
  obtain ⟨d, rfl, d1, d2⟩ := WT.intv Try.underlying5 (f0 3 _ _ rfl rfl)
  obtain ⟨l, i1, i2, i3⟩ := ints_of (f0 4 _ _ rfl rfl)
  have a1 : (0 : Int) ≤ a := a1
  have a2 : a ≤ 255 := a2
  have b1 : (0 : Int) ≤ b := b1
  have b2 : b ≤ 255 := b2
  have c1 : (0 : Int) ≤ c := c1
  have c2 : c ≤ 255 := c2
  have d1 : (0 : Int) ≤ d := d1
  have d2 : d ≤ 255 := d2
  obtain ⟨a, rfl⟩ : ∃ m : Nat, a = m := ⟨a.toNat, by omega⟩
  obtain ⟨b, rfl⟩ : ∃ m : Nat, b = m := ⟨b.toNat, by omega⟩
  obtain ⟨c, rfl⟩ : ∃ m : Nat, c = m := ⟨c.toNat, by omega⟩
  obtain ⟨d, rfl⟩ : ∃ m : Nat, d = m := ⟨d.toNat, by omega⟩
  have hm : Go.maxLen ≤ 9223372036854775807 := by decide
  exact ⟨a, b, c, d, e, l, rfl, by omega, by omega, by omega, by omega, i1, i2, by omega⟩
set_option maxRecDepth 100000 in
theorem bend_of {k : Nat} {x : V} (h : WT Try.prog (k + 4) 26 x) : ∃ (a b c : Nat) (d : Int), x = .list [.int a, .int b, .int c, .int d] ∧ a ≤ 255 ∧ b ≤ 255 ∧ c ≤ 255 ∧ -9223372036854775808 ≤ d ∧ d ≤ 9223372036854775807 := by
  obtain ⟨xs, rfl, l0, f0⟩ := WT.struct Try.underlying26 h
  match xs, l0 with
  | [a, b, c, d], _ =>
  obtain ⟨a, rfl, a1, a2⟩ := WT.intv Try.underlying5 (f0 0 _ _ rfl rfl)
  obtain ⟨b, rfl, b1, b2⟩ := WT.intv Try.underlying5 (f0 1 _ _ rfl rfl)
  obtain ⟨c, rfl, c1, c2⟩ := WT.intv Try.underlying5 (f0 2 _ _ rfl rfl)
  obtain ⟨d, rfl, d1, d2⟩ := WT.intv Try.underlying3 (f0 3 _ _ rfl rfl)
  have a1 : (0 : Int) ≤ a := a1
  have a2 : a ≤ 255 := a2
  have b1 : (0 : Int) ≤ b := b1
  have b2 : b ≤ 255 := b2
  have c1 : (0 : Int) ≤ c := c1
  have c2 : c ≤ 255 := c2
  have d1 : (-9223372036854775808 : Int) ≤ d := d1
  have d2 : d ≤ 9223372036854775807 := d2
  obtain ⟨a, rfl⟩ : ∃ m : Nat, a = m := ⟨a.toNat, by omega⟩
  obtain ⟨b, rfl⟩ : ∃ m : Nat, b = m := ⟨b.toNat, by omega⟩
  obtain ⟨c, rfl⟩ : ∃ m : Nat, c = m := ⟨c.toNat, by omega⟩
  exact ⟨a, b, c, d, rfl, by omega, by omega, by omega, d1, d2⟩
set_option maxRecDepth 100000 in
theorem known_of {k : Nat} {x : V} (h : WT Try.prog (k + 4) 45 x) : ∃ (a b d : Int), x = .list [.int a, .int b, .int d] ∧ -9223372036854775808 ≤ a ∧ a ≤ 9223372036854775807 ∧ -9223372036854775808 ≤ b ∧ b ≤ 9223372036854775807 ∧ -9223372036854775808 ≤ d ∧ d ≤ 9223372036854775807 := by
  obtain ⟨xs, rfl, l0, f0⟩ := WT.struct Try.underlying45 h
  match xs, l0 with
  | [a, b, d], _ =>
  obtain ⟨a, rfl, a1, a2⟩ := WT.intv Try.underlying3 (f0 0 _ _ rfl rfl)
  obtain ⟨b, rfl, b1, b2⟩ := WT.intv Try.underlying3 (f0 1 _ _ rfl rfl)
  obtain ⟨d, rfl, d1, d2⟩ := WT.intv Try.underlying3 (f0 2 _ _ rfl rfl)
  exact ⟨a, b, d, rfl, a1, a2, b1, b2, d1, d2⟩
set_option maxRecDepth 100000 in
theorem raw_of {k : Nat} {x : V} (h : WT Try.prog (k + 4) 29 x) : ∃ (G C o : Int) (R : V) (rows : List (List Int)), x = gm G C o R ∧ Tab R rows ∧ -9223372036854775808 ≤ G ∧ G ≤ 9223372036854775807 ∧ -9223372036854775808 ≤ C ∧ C ≤ 9223372036854775807 ∧ -9223372036854775808 ≤ o ∧ o ≤ 9223372036854775807 := by
  obtain ⟨xs, rfl, l0, f0⟩ := WT.struct Try.underlying29 h
  match xs, l0 with
  | [a, b, c, d], _ =>
  obtain ⟨a, rfl, a1, a2⟩ := WT.intv Try.underlying3 (f0 0 _ _ rfl rfl)
  obtain ⟨b, rfl, b1, b2⟩ := WT.intv Try.underlying3 (f0 1 _ _ rfl rfl)
  obtain ⟨c, rfl, c1, c2⟩ := WT.intv Try.underlying3 (f0 2 _ _ rfl rfl)
  obtain ⟨rows, hr⟩ := tab_of (f0 3 _ _ rfl rfl)
  exact ⟨a, b, c, d, rows, rfl, hr, a1, a2, b1, b2, c1, c2⟩
end Go.Proofs.Ytildjgdhdcoojaa.Par
