/- Texts of the claim: Lift14, Lift15, Lift17, Lift18, WTt, Par. -/
import Derived.Test.YtildjgdhdcoojaaZ11
import Derived.Test.YtildjgdhdcoojaaZ13
import Derived.Test.YtildjgdhdcoojaaZ10
import Derived.Test.YtildjgdhdcoojaaRows
import Derived.WalkKit
namespace X
open Go Go.Abs Go.Sym
set_option linter.unusedVariables false
set_option linter.unusedSimpArgs false

theorem models_spec {g c o w : Nat} {L : V} {l : List Nat} (hg : g ≤ 255) (hc : c ≤ 255) (ho : o ≤ 255) (hw : w ≤ 255) (hL : Ints L l) (hl : ∀ x ∈ l, x ≤ 255) (hll : l.length ≤ 9223372036854775807)
    {bw bj ba : Nat} {N : Int} (hbj : bj ≤ 255) (hba : ba ≤ 255) (hN1 : -9223372036854775808 ≤ N) (hN2 : N ≤ 9223372036854775807)
    {rG rC ro : Int} {rR : V} {rrows : List (List Int)} (tab : Tab rR rrows) (hC1 : -9223372036854775808 ≤ rC) (hC2 : rC ≤ 9223372036854775807) :
    ∃ G0 C0 o0 R0 rows0 G1 C1 o1 R1 rows1 R2 rows2, GMod G0 C0 o0 R0 rows0 ∧ GMod G1 C1 o1 R1 rows1 ∧ GMod rG rC ro R2 rows2 ∧
      Fn prog models.f [.list [.int g, .int c, .int o, .int w, L], .list [.int bw, .int bj, .int ba, .int N], gm rG rC ro rR] (.list [gm G0 C0 o0 R0, gm G1 C1 o1 R1, gm rG rC ro R2]) := by
  obtain ⟨R, n', rows, M, hn', f17⟩ := DraftLift_spec hg hc ho hw hL hl hll
  subst hn'
  obtain ⟨G1, C1, o1, R1, rows1, M1, f35⟩ := BendOf_spec M (w := bw) hbj hba hN1 hN2
  obtain ⟨R2, rows2, M2, f36⟩ := few_spec (G := rG) (o := ro) tab hC1 hC2
  refine ⟨_, _, _, R, _, G1, C1, o1, R1, rows1, R2, rows2, M.gmod, M1, M2, ?_⟩
  refine Fn.of (C := models.K) models.b (Comes.last progOk models.p0 [lv (1 + g % 20) (1 + c % 10) (o % (1 + g % 20 + 1)) R, gm G1 C1 o1 R1, gm rG rC ro R2] ?_ rfl)
  simp only [EvOk, E.b, E.i, E.v, Env.ext, evL]
  exact ⟨f17, f35, f36⟩
end X
namespace X
open Go Go.Abs Go.Sym
set_option linter.unusedVariables false
set_option linter.unusedSimpArgs false

def qer : V → V
  | .nil => .list [.nil, .int 7]
  | q => .list [q, .int 0]
theorem row0_len {R : V} {G n o k : Nat} {rows : List (List Nat)} (M : LMod R G n o k rows) : (R.get 0).len = (k : Int) := by
  obtain ⟨r, hr⟩ : ∃ r, rows[0]? = some r := ⟨_, List.getElem?_eq_getElem (by have := M.len; omega)⟩
  have := (M.row 0 r hr).1.len
  have hk := (M.row 0 r hr).2.1
  rw [show ((0 : Nat) : Int) = 0 from rfl] at this
  rw [this, hk]
end X
namespace X
open Go Go.Abs Go.Sym
set_option linter.unusedVariables false
set_option linter.unusedSimpArgs false

theorem snoc_len (x y : V) : (x.snoc y).len = x.len + 1 := by simp [V.snoc, V.len, els_list]
theorem same02_refl (a : V) (h : a.len ≤ 9223372036854775807) : Fn prog ref02_Same.f [a, a] (.bool true) := by
  have loop : ∀ (t i : Nat) (i' : Int), ((t + i : Nat) : Int) = a.len → i' = i → Comes ref02_Same.K ref02_Same.f ref02_Same.s1 ⟨[i'], [], [a, a]⟩ (.bool true) := by
    intro t
    induction t with
    | zero =>
      intro i i' ht hi
      subst hi
      refine Comes.last progOk ref02_Same.p4 [] ?_ rfl
      simp only [EvOk, E.b, E.i, E.v, Env.ext, evL]; omega
    | succ t ih =>
      intro i i' ht hi
      subst hi
      refine Comes.step progOk ref02_Same.p3 [] ?_ (ih (i + 1) ((i : Int) + 1) (by omega) (by omega))
      simp only [EvOk, E.b, E.i, E.v, Env.ext, evL]; omega
  refine Fn.of (C := ref02_Same.K) ref02_Same.b (Comes.step progOk ref02_Same.p1 [] ?_ (loop a.els.length 0 0 (by simp [V.len]) rfl))
  simp only [EvOk, E.b, E.i, E.v, Env.ext, evL]
theorem get_of {x : V} {i : Nat} (h : (i : Int) < x.len) : x.get (i : Int) ∈ x.els := by
  have h : i < x.els.length := by unfold V.len at h; omega
  rw [get_els h]; exact List.getElem_mem h
theorem same05_refl (g N : V) (h : N.len ≤ 9223372036854775806) (hn : ∀ x ∈ N.els, (x.get 1).len ≤ 9223372036854775806 ∧ (x.get 2).len ≤ 9223372036854775806 ∧ ∀ r ∈ (x.get 2).els, r.len ≤ 9223372036854775806) : Fn prog ref05_Same.f [.list [g, N], .list [g, N]] (.bool true) := by
  have l1 : (V.list [g, N]).get 1 = N := rfl
  have loop : ∀ (t i : Nat) (i' : Int), ((t + i : Nat) : Int) = N.len → i' = i → Comes ref05_Same.K ref05_Same.f ref05_Same.s1 ⟨[i'], [], [.list [g, N], .list [g, N]]⟩ (.bool true) := by
    intro t
    induction t with
    | zero =>
      intro i i' ht hi
      subst hi
      refine Comes.last progOk ref05_Same.p7 [] ?_ rfl
      simp only [EvOk, E.b, E.i, E.v, Env.ext, evL]; rw [l1]; omega
    | succ t ih =>
      intro i i' ht hi
      subst hi
      have nx := ih (i + 1) ((i : Int) + 1) (by omega) (by omega)
      obtain ⟨a1, a2, a3⟩ := hn (N.get (i : Int)) (get_of (by omega))
      have s1 := same02_refl ((N.get (i : Int)).get 1) (by omega)
      have inner : ∀ (u j : Nat) (j' x y : Int), ((u + j : Nat) : Int) = ((N.get (i : Int)).get 2).len → j' = j → Comes ref05_Same.K ref05_Same.f ref05_Same.s2 ⟨[j', i, x, y], [], [.list [g, N], .list [g, N], .bool true, (N.get (i : Int)).get 1, (N.get (i : Int)).get 2, (N.get (i : Int)).get 1, (N.get (i : Int)).get 2]⟩ (.bool true) := by
        intro u
        induction u with
        | zero =>
          intro j j' x y hu hj
          subst hj
          refine Comes.step progOk ref05_Same.p10 [] ?_ nx
          simp only [EvOk, E.b, E.i, E.v, Env.ext, evL]; omega
        | succ u ih2 =>
          intro j j' x y hu hj
          subst hj
          have s2 := same02_refl (((N.get (i : Int)).get 2).get (j : Int)) (by have := a3 _ (get_of (x := (N.get (i : Int)).get 2) (i := j) (by omega)); omega)
          refine Comes.step progOk ref05_Same.p9 [.bool true] ?_ (ih2 (j + 1) ((j : Int) + 1) x y (by omega) (by omega))
          simp only [EvOk, E.b, E.i, E.v, Env.ext, evL]
          refine ⟨by omega, by omega, by omega, s2, ?_⟩
          omega
      have i0 := inner ((N.get (i : Int)).get 2).els.length 0 0 ((N.get (i : Int)).get 0).toI ((N.get (i : Int)).get 0).toI (by simp [V.len]) rfl
      refine Comes.step progOk ref05_Same.p6 [.bool true] ?_ i0
      simp only [EvOk, E.b, E.i, E.v, Env.ext, evL]
      simp only [l1]
      refine ⟨by omega, by omega, by omega, s1⟩
  refine Fn.of (C := ref05_Same.K) ref05_Same.b (Comes.step progOk ref05_Same.p2 [] ?_ (loop N.els.length 0 0 (by simp [V.len]) rfl))
  simp only [EvOk, E.b, E.i, E.v, Env.ext, evL]

/-- The ones among the first bits. -/
def popc (c : Nat) : Nat → Nat
  | 0 => 0
  | v + 1 => popc c v + c / 2 ^ v % 2
theorem popc_le (c : Nat) : ∀ v, popc c v ≤ v
  | 0 => Nat.le_refl _
  | v + 1 => by have := popc_le c v; unfold popc; omega
def nodeM (a b : Int) : V := .list [.int 2, .nil, .list [.list [.int a, .int b]]]
def nod (x : V) : Nat → V
  | 0 => .nil
  | i + 1 => (nod x i).snoc x
def par : Nat → V
  | 0 => .nil
  | i + 1 => (par i).snoc (.int i)
def rws (R : V) (n : Nat) : Nat → V
  | 0 => .nil
  | c + 1 => (rws R n c).snoc (R.get (popc c n : Nat))
theorem nod_len (x : V) : ∀ i : Nat, (nod x i).len = i
  | 0 => rfl
  | i + 1 => by unfold nod; rw [snoc_len, nod_len]; rfl
theorem par_len : ∀ i : Nat, (par i).len = i
  | 0 => rfl
  | i + 1 => by unfold par; rw [snoc_len, par_len]; rfl
theorem rws_len (R : V) (n : Nat) : ∀ i : Nat, (rws R n i).len = i
  | 0 => rfl
  | i + 1 => by unfold rws; rw [snoc_len, rws_len]; rfl
theorem nod_mem (x : V) : ∀ (i : Nat) (y : V), y ∈ (nod x i).els → y = x
  | 0, y, h => by cases h
  | i + 1, y, h => by
    unfold nod V.snoc at h
    rw [els_list] at h
    rcases List.mem_append.1 h with q | q
    · exact nod_mem x i y q
    · simpa using q
theorem rws_mem (R : V) (n : Nat) : ∀ (i : Nat) (y : V), y ∈ (rws R n i).els → ∃ j, j ≤ n ∧ y = R.get (j : Nat)
  | 0, y, h => by cases h
  | i + 1, y, h => by
    unfold rws V.snoc at h
    rw [els_list] at h
    rcases List.mem_append.1 h with q | q
    · exact rws_mem R n i y q
    · exact ⟨_, popc_le i n, by simpa using q⟩
def netM (R : V) (G n o k : Nat) : V := .list [.int G, (nod (nodeM ((G : Int) - o) o) n).snoc (.list [.int k, par n, rws R n (2 ^ n)])]
theorem bit_shr : ∀ c : Nat, c < 128 → ∀ v : Nat, v < 7 → ((c : Int).fdiv (2 ^ (Nat.min ((v : Int)).toNat IntKind.i64.bits))).tmod 2 = ((c / 2 ^ v % 2 : Nat) : Int) := by decide +kernel
theorem bit_and : ∀ c : Nat, c < 128 → ∀ v : Nat, v < 7 → bitsI .and .i64 ((c : Int).fdiv (2 ^ (Nat.min ((v : Int)).toNat IntKind.i64.bits))) 1 = ((c / 2 ^ v % 2 : Nat) : Int) := by decide +kernel
theorem bit_shl : ∀ n : Nat, n < 8 → (1 : Int) * 2 ^ (Nat.min ((n : Int)).toNat IntKind.i64.bits) = ((2 ^ n : Nat) : Int) := by decide +kernel
theorem row_list {R : V} {G n o k : Nat} {rows : List (List Nat)} (M : LMod R G n o k rows) {j : Nat} (h : j ≤ n) : (R.get (j : Int)).len = k ∧ ∃ l, R.get (j : Int) = .list l ∧ l ≠ [] := by
  obtain ⟨r, hr⟩ : ∃ r, rows[j]? = some r := ⟨_, List.getElem?_eq_getElem (by have := M.len; omega)⟩
  have a := (M.row j r hr).1
  have b := (M.row j r hr).2.1
  have c := M.k1
  refine ⟨by rw [a.len, b], ?_⟩
  unfold Ints at a
  cases hx : R.get (j : Int) with
  | list l =>
    refine ⟨l, rfl, ?_⟩
    intro e; subst e
    rw [hx] at a
    cases r with
    | nil => simp at b; omega
    | cons => simp [V.els] at a
  | _ =>
    exfalso
    rw [hx] at a
    cases r with
    | nil => simp at b; omega
    | cons => simp [V.els] at a
theorem clone_spec {x : V} {l : List V} (h : x = .list l) (h0 : l ≠ []) (hl : x.len ≤ 1000000) : Fn prog clone.f [x] x := by
  subst h
  refine Fn.of (C := clone.K) clone.b (Comes.last progOk clone.p1 [] ?_ ?_)
  · simp only [EvOk, E.b, E.i, E.v, Env.ext, evL]; exact ⟨rfl, by omega⟩
  · simp only [E.v, Env.ext, List.append_nil, List.getD_cons_zero]
    cases l with
    | nil => exact absurd rfl h0
    | cons a l => rfl
theorem bsum {c v : Nat} {s' i' w' : Int} (hs : s' = (popc c v : Nat)) (hw : w' = ((c / 2 ^ v % 2 : Nat) : Int)) : s' + w' = (popc c (v + 1) : Nat) := by
  rw [hs, hw, show popc c (v + 1) = popc c v + c / 2 ^ v % 2 from rfl]
  generalize c / 2 ^ v % 2 = q
  omega
theorem lift_Ground_ok {R : V} {G n o k : Nat} {rows : List (List Nat)} (M : LMod R G n o k rows) (h7 : n ≤ 7) : Fn prog lift_Ground.f [lv G n o R] (.list [netM R G n o k, .int 0]) := by
  have hv := valid_spec M
  have hg := M.g2
  have ho := M.o1
  have hk2 := M.k2
  have l0 : ((lv G n o R).get 0).toI = G := rfl
  have l1 : ((lv G n o R).get 1).toI = n := rfl
  have l2 : ((lv G n o R).get 2).toI = o := rfl
  have l3 : (lv G n o R).get 3 = R := rfl
  have hR : R.len = (n + 1 : Int) := by simp [V.len, M.rlen]
  have h0l := row0_len M
  have hsh := bit_shl n (by omega)
  have hpow : 2 ^ n ≤ 128 := Nat.pow_le_pow_right (by omega) h7 
  have hpow0 : 0 < 2 ^ n := Nat.pow_pos (by omega)
  -- the rows
  have L2 : ∀ (t c : Nat) (c' : Int) (nv pv : V), nv = nod (nodeM ((G : Int) - o) o) n → pv = par n → t + c = 2 ^ n → c' = c → Comes lift_Ground.K lift_Ground.f lift_Ground.s2 ⟨[c'], [], [lv G n o R, .bool true, nv, pv, rws R n c]⟩ (.list [netM R G n o k, .int 0]) := by
    intro t
    induction t with
    | zero =>
      intro c c' nv pv hnv hpv ht hc
      have : c = 2 ^ n := by omega
      subst this hc hnv hpv
      refine Comes.last progOk lift_Ground.p6 [] ?_ ?_
      · simp only [EvOk, E.b, E.i, E.v, Env.ext, evL]; rw [l1, hsh, nod_len]; omega
      · simp only [E.v, E.i, Env.ext, List.append_nil, List.getD_cons_zero, List.getD_cons_succ]
        rw [l3, h0l]; rfl
    | succ t ih =>
      intro c c' nv pv hnv hpv ht hc
      subst hc
      have nx := ih (c + 1) ((c : Int) + 1) nv pv hnv hpv (by omega) (by omega)
      have hp := popc_le c n
      obtain ⟨r1, rl, r2, r3⟩ := row_list M hp
      have hcl := clone_spec r2 r3 (by omega)
      have inner : ∀ (u v : Nat) (s' v' : Int), u + v = n → v' = v → s' = (popc c v : Nat) → Comes lift_Ground.K lift_Ground.f lift_Ground.s3 ⟨[s', v', c, c], [], [lv G n o R, .bool true, nv, pv, rws R n c]⟩ (.list [netM R G n o k, .int 0]) := by
        intro u
        induction u with
        | zero =>
          intro v s' v' hu hvv hs
          have : v = n := by omega
          subst this hvv hs
          refine Comes.step progOk lift_Ground.p8 [R.get (popc c v : Nat)] ?_ nx
          simp only [EvOk, E.b, E.i, E.v, Env.ext, evL]; rw [l1, l3, hR, rws_len]
          exact ⟨by omega, by omega, hcl, by omega, by omega⟩
        | succ u ih2 =>
          intro v s' v' hu hvv hs
          have hb := bit_and c (by omega) v (by omega)
          have hm := Nat.mod_lt (c / 2 ^ v) (by decide : 2 > 0)
          have hpl := popc_le c v
          have e := bsum hs hb (i' := 0)
          subst hvv
          have nx2 := ih2 (v + 1) _ ((v : Int) + 1) (by omega) (by omega) e
          refine Comes.step progOk lift_Ground.p7 [] ?_ nx2
          simp only [EvOk, E.b, E.i, E.v, Env.ext, evL]; rw [l1, hb, hs]
          exact ⟨by omega, by omega, by omega, by omega⟩
      have a0 := inner n 0 0 0 (by omega) rfl rfl
      refine Comes.step progOk lift_Ground.p5 [] ?_ a0
      simp only [EvOk, E.b, E.i, E.v, Env.ext, evL]; rw [l1, hsh]; omega
  have L1 : ∀ (t i : Nat) (i' : Int), t + i = n → i' = i → Comes lift_Ground.K lift_Ground.f lift_Ground.s1 ⟨[i'], [], [lv G n o R, .bool true, nod (nodeM ((G : Int) - o) o) i, par i]⟩ (.list [netM R G n o k, .int 0]) := by
    intro t
    induction t with
    | zero =>
      intro i i' ht hi
      have : i = n := by omega
      subst this hi
      have nx := L2 (2 ^ i) 0 0 _ _ rfl rfl (by omega) rfl
      refine Comes.step progOk lift_Ground.p4 [] ?_ nx
      simp only [EvOk, E.b, E.i, E.v, Env.ext, evL]; rw [l1, hsh]; omega
    | succ t ih =>
      intro i i' ht hi
      subst hi
      have nx := ih (i + 1) ((i : Int) + 1) (by omega) (by omega)
      refine Comes.step progOk lift_Ground.p3 [] ?_ nx
      simp only [EvOk, E.b, E.i, E.v, Env.ext, evL]; rw [l0, l1, l2, nod_len, par_len]; omega
  refine Fn.of (C := lift_Ground.K) lift_Ground.b (Comes.step progOk lift_Ground.p2 [.bool true] ?_ (L1 n 0 0 (by omega) rfl))
  simp only [EvOk, E.b, E.i, E.v, Env.ext, evL]; rw [l1, l3, hR]
  exact ⟨hv, by omega, by omega⟩
theorem ref_Ground_ok {R : V} {G n o k : Nat} {rows : List (List Nat)} (M : LMod R G n o k rows) (h7 : n ≤ 7) : Fn prog ref14_Ground.f [lv G n o R] (netM R G n o k) := by
  have hg := M.g2
  have ho := M.o1
  have hk2 := M.k2
  have l0 : ((lv G n o R).get 0).toI = G := rfl
  have l1 : ((lv G n o R).get 1).toI = n := rfl
  have l2 : ((lv G n o R).get 2).toI = o := rfl
  have l3 : (lv G n o R).get 3 = R := rfl
  have hR : R.len = (n + 1 : Int) := by simp [V.len, M.rlen]
  have h0l := row0_len M
  have hsh := bit_shl n (by omega)
  have hpow : 2 ^ n ≤ 128 := Nat.pow_le_pow_right (by omega) h7 
  have hpow0 : 0 < 2 ^ n := Nat.pow_pos (by omega)
  have L2 : ∀ (t c : Nat) (c' : Int) (nv pv : V), nv = nod (nodeM ((G : Int) - o) o) n → pv = par n → t + c = 2 ^ n → c' = c → Comes ref14_Ground.K ref14_Ground.f ref14_Ground.s2 ⟨[c'], [], [lv G n o R, nv, pv, rws R n c]⟩ (netM R G n o k) := by
    intro t
    induction t with
    | zero =>
      intro c c' nv pv hnv hpv ht hc
      have : c = 2 ^ n := by omega
      subst this hc hnv hpv
      refine Comes.last progOk ref14_Ground.p4 [] ?_ ?_
      · simp only [EvOk, E.b, E.i, E.v, Env.ext, evL]; rw [l1, hsh, nod_len]; omega
      · simp only [E.v, E.i, Env.ext, List.append_nil, List.getD_cons_zero, List.getD_cons_succ]
        rw [l3, h0l]; rfl
    | succ t ih =>
      intro c c' nv pv hnv hpv ht hc
      subst hc
      have nx := ih (c + 1) ((c : Int) + 1) nv pv hnv hpv (by omega) (by omega)
      have hp := popc_le c n
      have inner : ∀ (u v : Nat) (s' v' : Int), u + v = n → v' = v → s' = (popc c v : Nat) → Comes ref14_Ground.K ref14_Ground.f ref14_Ground.s3 ⟨[s', v', c], [], [lv G n o R, nv, pv, rws R n c]⟩ (netM R G n o k) := by
        intro u
        induction u with
        | zero =>
          intro v s' v' hu hvv hs
          have : v = n := by omega
          subst this hvv hs
          refine Comes.step progOk ref14_Ground.p6 [] ?_ nx
          simp only [EvOk, E.b, E.i, E.v, Env.ext, evL]; rw [l1, l3, hR, rws_len]
          omega
        | succ u ih2 =>
          intro v s' v' hu hvv hs
          have hb := bit_shr c (by omega) v (by omega)
          have hm := Nat.mod_lt (c / 2 ^ v) (by decide : 2 > 0)
          have hpl := popc_le c v
          have e := bsum hs hb (i' := 0)
          subst hvv
          have nx2 := ih2 (v + 1) _ ((v : Int) + 1) (by omega) (by omega) e
          refine Comes.step progOk ref14_Ground.p5 [] ?_ nx2
          simp only [EvOk, E.b, E.i, E.v, Env.ext, evL]; rw [l1, hb, hs]
          omega
      have a0 := inner n 0 0 0 (by omega) rfl rfl
      refine Comes.step progOk ref14_Ground.p3 [] ?_ a0
      simp only [EvOk, E.b, E.i, E.v, Env.ext, evL]; rw [l1, hsh]; omega
  have L1 : ∀ (t i : Nat) (i' : Int), t + i = n → i' = i → Comes ref14_Ground.K ref14_Ground.f ref14_Ground.s1 ⟨[i'], [], [lv G n o R, nod (nodeM ((G : Int) - o) o) i, par i]⟩ (netM R G n o k) := by
    intro t
    induction t with
    | zero =>
      intro i i' ht hi
      have : i = n := by omega
      subst this hi
      have nx := L2 (2 ^ i) 0 0 _ _ rfl rfl (by omega) rfl
      refine Comes.step progOk ref14_Ground.p2 [] ?_ nx
      simp only [EvOk, E.b, E.i, E.v, Env.ext, evL]; rw [l1]; omega
    | succ t ih =>
      intro i i' ht hi
      subst hi
      have nx := ih (i + 1) ((i : Int) + 1) (by omega) (by omega)
      refine Comes.step progOk ref14_Ground.p1 [] ?_ nx
      simp only [EvOk, E.b, E.i, E.v, Env.ext, evL]; rw [l0, l1, l2, nod_len, par_len]; omega
  refine Fn.of (C := ref14_Ground.K) ref14_Ground.b (Comes.step progOk ref14_Ground.p0 [] ?_ (L1 n 0 0 (by omega) rfl))
  simp only [EvOk, E.b, E.i, E.v, Env.ext, evL]; rw [l3, hR]
  omega
theorem net_same {R : V} {G n o k : Nat} {rows : List (List Nat)} (M : LMod R G n o k rows) (h7 : n ≤ 7) : Fn prog ref05_Same.f [netM R G n o k, netM R G n o k] (.bool true) := by
  have hpow : 2 ^ n ≤ 128 := Nat.pow_le_pow_right (by omega) h7 
  have hk2 := M.k2
  refine same05_refl _ _ ?_ ?_
  · rw [snoc_len, nod_len]; omega
  · intro x hx
    unfold V.snoc at hx
    rw [els_list] at hx
    rcases List.mem_append.1 hx with q | q
    · rw [nod_mem _ _ _ q]
      have e1 : ((nodeM ((G : Int) - o) o).get 1).len = 0 := rfl
      have e2 : ((nodeM ((G : Int) - o) o).get 2).len = 1 := rfl
      refine ⟨by omega, by omega, ?_⟩
      intro r hr
      have : r = .list [.int ((G : Int) - o), .int o] := by simpa [nodeM, V.get, V.els] using hr
      subst this
      have e3 : (V.list [V.int ((G : Int) - o), V.int o]).len = 2 := rfl
      omega
    · simp at q
      subst q
      have e1 : (V.list [.int k, par n, rws R n (2 ^ n)]).get 1 = par n := rfl
      have e2 : (V.list [.int k, par n, rws R n (2 ^ n)]).get 2 = rws R n (2 ^ n) := rfl
      rw [e1, e2, par_len, rws_len]
      refine ⟨by omega, by omega, ?_⟩
      intro r hr
      obtain ⟨j, hj, rfl⟩ := rws_mem _ _ _ _ hr
      rw [(row_list M hj).1]; omega
end X
namespace X
open Go Go.Abs Go.Sym
set_option linter.unusedVariables false
set_option linter.unusedSimpArgs false

def emptyNet : V := .list [.int 0, .nil]
/-- What the four functions say of a model. -/
inductive Says (G C o : Int) (R : V) : Prop
  | wrong (a : Fn prog ref14_Right.f [gm G C o R] (.bool false)) (b : Fn prog lift_Ground.f [gm G C o R] (.list [emptyNet, .int 140])) (c : Fn prog lift_Check.f [gm G C o R] (.int 140))
  | large (a : Fn prog ref14_Right.f [gm G C o R] (.bool true)) (b : Fn prog lift_Ground.f [gm G C o R] (.list [emptyNet, .int 6])) (c : Fn prog lift_Check.f [gm G C o R] (.int 0)) (d : 7 < C)
  | net (g N : V) (a : Fn prog ref14_Right.f [gm G C o R] (.bool true)) (b : Fn prog lift_Ground.f [gm G C o R] (.list [.list [g, N], .int 0])) (c : Fn prog lift_Check.f [gm G C o R] (.int 0)) (d : C ≤ 7) (e : Fn prog ref14_Ground.f [gm G C o R] (.list [g, N])) (h : Fn prog ref05_Same.f [.list [g, N], .list [g, N]] (.bool true)) (i : g = .int G)
theorem says {G C o : Int} {R : V} {rows : List (List Int)} (M : GMod G C o R rows) : Says G C o R := by
  have hr := Right_dec M
  have hv := valid_dec M
  by_cases hok : okM G C o rows = true
  · rw [hok] at hr hv
    have hC : Fn prog lift_Check.f [gm G C o R] (.int 0) := by
      refine Fn.of (C := lift_Check.K) lift_Check.b (Comes.last progOk lift_Check.p1 [.bool true] ?_ rfl)
      simp only [EvOk, E.b, E.i, E.v, Env.ext, evL]; exact hv
    by_cases h7 : 7 < C
    · refine .large hr ?_ hC h7
      refine Fn.of (C := lift_Ground.K) lift_Ground.b (Comes.last progOk lift_Ground.p1 [.bool true] ?_ rfl)
      simp only [EvOk, E.b, E.i, E.v, Env.ext, evL]; exact ⟨hv, h7⟩
    · obtain ⟨g, n, p, k, rfl, rfl, rfl, hk, L, hgm⟩ := okM_mod M hok
      have a := lift_Ground_ok L (by omega)
      have b := ref_Ground_ok L (by omega)
      have c := net_same L (by omega)
      rw [← hgm] at a b
      exact .net _ _ hr a hC (by omega) b c rfl
  · have hf : okM G C o rows = false := by simpa using hok
    rw [hf] at hr hv
    refine .wrong hr ?_ ?_
    · refine Fn.of (C := lift_Ground.K) lift_Ground.b (Comes.last progOk lift_Ground.p0 [.bool false] ?_ rfl)
      simp only [EvOk, E.b, E.i, E.v, Env.ext, evL]; exact hv
    · refine Fn.of (C := lift_Check.K) lift_Check.b (Comes.last progOk lift_Check.p0 [.bool false] ?_ rfl)
      simp only [EvOk, E.b, E.i, E.v, Env.ext, evL]; exact hv
theorem LiftChecks_spec {g c o w : Nat} {L : V} {l : List Nat} (hg : g ≤ 255) (hc : c ≤ 255) (ho : o ≤ 255) (hw : w ≤ 255) (hL : Ints L l) (hl : ∀ x ∈ l, x ≤ 255) (hll : l.length ≤ 9223372036854775807)
    {bw bj ba : Nat} {N : Int} (hbj : bj ≤ 255) (hba : ba ≤ 255) (hN1 : -9223372036854775808 ≤ N) (hN2 : N ≤ 9223372036854775807)
    {rG rC ro : Int} {rR : V} {rrows : List (List Int)} (tab : Tab rR rrows) (hC1 : -9223372036854775808 ≤ rC) (hC2 : rC ≤ 9223372036854775807) :
    Fn prog LiftChecks.f [.list [.int g, .int c, .int o, .int w, L], .list [.int bw, .int bj, .int ba, .int N], gm rG rC ro rR] (.bool true) := by
  obtain ⟨G0, C0, o0, R0, rows0, G1, C1, o1, R1, rows1, R2, rows2, M0, M1, M2, f10⟩ := models_spec hg hc ho hw hL hl hll hbj hba hN1 hN2 (rG := rG) (ro := ro) tab hC1 hC2 (bw := bw)
  generalize hA : V.list [.int g, .int c, .int o, .int w, L] = A at *
  generalize hB : V.list [.int bw, .int bj, .int ba, .int N] = B at *
  generalize hD : gm rG rC ro rR = D at *
  have y3 : Comes LiftChecks.K LiftChecks.f LiftChecks.s1 ⟨[3], [], [A, B, D, .bool true, .list [gm G0 C0 o0 R0, gm G1 C1 o1 R1, gm rG rC ro R2]]⟩ (.bool true) := by
    refine Comes.last progOk LiftChecks.p62 [] ?_ rfl
    simp only [EvOk, E.b, E.i, E.v, Env.ext, evL]; omega
  have y2 : Comes LiftChecks.K LiftChecks.f LiftChecks.s1 ⟨[2], [], [A, B, D, .bool true, .list [gm G0 C0 o0 R0, gm G1 C1 o1 R1, gm rG rC ro R2]]⟩ (.bool true) := by
    cases says M2 with
    | wrong a b c =>
      refine Comes.step progOk LiftChecks.p46 [.bool false, .list [emptyNet, .int 140], .int 140, .int 140] ?_ y3
      simp only [EvOk, E.b, E.i, E.v, Env.ext, evL]; exact ⟨by omega, by omega, by omega, a, b, c, rfl, c, by decide⟩
    | large a b c d =>
      refine Comes.step progOk LiftChecks.p58 [.bool true, .list [emptyNet, .int 6], .int 0] ?_ y3
      simp only [EvOk, E.b, E.i, E.v, Env.ext, evL]; exact ⟨by omega, by omega, by omega, a, b, c, rfl, d, by decide⟩
    | net g N a b c d e h i =>
      subst i
      refine Comes.step progOk LiftChecks.p61 [.bool true, .list [.list [.int rG, N], .int 0], .int 0, .list [.int rG, N], .bool true] ?_ y3
      simp only [EvOk, E.b, E.i, E.v, Env.ext, evL]; exact ⟨by omega, by omega, by omega, a, b, c, rfl, d, rfl, e, h⟩
  have y1 : Comes LiftChecks.K LiftChecks.f LiftChecks.s1 ⟨[1], [], [A, B, D, .bool true, .list [gm G0 C0 o0 R0, gm G1 C1 o1 R1, gm rG rC ro R2]]⟩ (.bool true) := by
    cases says M1 with
    | wrong a b c =>
      refine Comes.step progOk LiftChecks.p26 [.bool false, .list [emptyNet, .int 140], .int 140, .int 140] ?_ y2
      simp only [EvOk, E.b, E.i, E.v, Env.ext, evL]; exact ⟨by omega, by omega, a, b, c, rfl, c, by decide⟩
    | large a b c d =>
      refine Comes.step progOk LiftChecks.p38 [.bool true, .list [emptyNet, .int 6], .int 0] ?_ y2
      simp only [EvOk, E.b, E.i, E.v, Env.ext, evL]; exact ⟨by omega, by omega, a, b, c, rfl, d, by decide⟩
    | net g N a b c d e h i =>
      subst i
      refine Comes.step progOk LiftChecks.p41 [.bool true, .list [.list [.int G1, N], .int 0], .int 0, .list [.int G1, N], .bool true] ?_ y2
      simp only [EvOk, E.b, E.i, E.v, Env.ext, evL]; exact ⟨by omega, by omega, a, b, c, rfl, d, rfl, e, h⟩
  have y0 : Comes LiftChecks.K LiftChecks.f LiftChecks.s1 ⟨[0], [], [A, B, D, .bool true, .list [gm G0 C0 o0 R0, gm G1 C1 o1 R1, gm rG rC ro R2]]⟩ (.bool true) := by
    cases says M0 with
    | wrong a b c =>
      refine Comes.step progOk LiftChecks.p6 [.bool false, .list [emptyNet, .int 140], .int 140, .int 140] ?_ y1
      simp only [EvOk, E.b, E.i, E.v, Env.ext, evL]; exact ⟨by omega, a, b, c, rfl, c, by decide⟩
    | large a b c d =>
      refine Comes.step progOk LiftChecks.p18 [.bool true, .list [emptyNet, .int 6], .int 0] ?_ y1
      simp only [EvOk, E.b, E.i, E.v, Env.ext, evL]; exact ⟨by omega, a, b, c, rfl, d, by decide⟩
    | net g N a b c d e h i =>
      subst i
      refine Comes.step progOk LiftChecks.p21 [.bool true, .list [.list [.int G0, N], .int 0], .int 0, .list [.int G0, N], .bool true] ?_ y1
      simp only [EvOk, E.b, E.i, E.v, Env.ext, evL]; exact ⟨by omega, a, b, c, rfl, d, rfl, e, h⟩
  refine Fn.of (C := LiftChecks.K) LiftChecks.b (Comes.step progOk LiftChecks.p1 [.bool true, .list [gm G0 C0 o0 R0, gm G1 C1 o1 R1, gm rG rC ro R2]] ?_ y0)
  subst hA hB hD
  simp only [EvOk, E.b, E.i, E.v, Env.ext, evL]
  exact ⟨wakes_spec, f10⟩
end X
namespace Go.Sym
open Go Go.Abs
theorem WT.struct {P : Program} {d : Nat} {t : TypeId} {x : V} {fields : Array Field} (hu : P.underlying t = some (.struct fields)) (h : WT P (d + 1) t x) : ∃ xs, x = .list xs ∧ xs.length = fields.toList.length ∧ ∀ (i : Nat) f y, fields.toList[i]? = some f → xs[i]? = some y → WT P d f.type y := by
  unfold WT at h; rw [hu] at h; exact h
theorem WT.intv {P : Program} {d : Nat} {t : TypeId} {x : V} {k : IntKind} (hu : P.underlying t = some (.int k)) (h : WT P (d + 1) t x) : ∃ n, x = .int n ∧ k.min ≤ n ∧ n ≤ k.max := by
  unfold WT at h; rw [hu] at h; exact h
theorem WT.slice {P : Program} {d : Nat} {t et : TypeId} {x : V} (hu : P.underlying t = some (.slice et)) (h : WT P (d + 1) t x) : x = .nil ∨ ∃ l, x = .list l ∧ l.length ≤ Go.maxLen ∧ ∀ y ∈ l, WT P d et y := by
  unfold WT at h; rw [hu] at h; exact h
end Go.Sym
namespace Go.Proofs.Ytildjgdhdcoojaa.Par
set_option linter.unusedVariables false
open Go.Sym (WT WTs V Ints)
open X (Zs Tab TabL gm)

set_option maxRecDepth 100000 in
theorem ints_of {d : Nat} {x : V} (h : WT Try.prog (d + 2) 22 x) : ∃ l : List Nat, Ints x l ∧ (∀ y ∈ l, y ≤ 255) ∧ l.length ≤ Go.maxLen := by
  rcases WT.slice Try.underlying22 h with rfl | ⟨l, rfl, hl, hy⟩
  · exact ⟨[], rfl, by simp, by simp⟩
  · clear h
    induction l with
    | nil => exact ⟨[], rfl, by simp, by simp⟩
    | cons a l ih =>
      obtain ⟨k, k1, k2, k3⟩ := ih (by simp at hl; omega) (fun y hm => hy y (by simp [hm]))
      obtain ⟨n, rfl, h1, h2⟩ := WT.intv Try.underlying5 (hy a (by simp))
      have h1' : (0 : Int) ≤ n := h1
      have h2' : n ≤ 255 := h2
      obtain ⟨m, rfl⟩ : ∃ m : Nat, n = m := ⟨n.toNat, by omega⟩
      refine ⟨m :: k, ?_, ?_, ?_⟩
      · unfold Ints at *
        simp only [V.els, List.map_cons] at *
        rw [k1]; rfl
      · intro y hy'
        rcases List.mem_cons.1 hy' with rfl | q
        · omega
        · exact k2 y q
      · have : l.length = k.length := by
          unfold Ints at k1
          simp only [V.els] at k1
          rw [k1]; simp
        simp only [List.length_cons] at *
        omega
set_option maxRecDepth 100000 in
theorem zs_of {d : Nat} {x : V} (h : WT Try.prog (d + 2) 64 x) : ∃ l : List Int, Zs x l := by
  rcases WT.slice Try.underlying64 h with rfl | ⟨l, rfl, hl, hy⟩
  · exact ⟨[], rfl⟩
  · clear h
    induction l with
    | nil => exact ⟨[], rfl⟩
    | cons a l ih =>
      obtain ⟨k, k1⟩ := ih (by simp at hl; omega) (fun y hm => hy y (by simp [hm]))
      obtain ⟨n, rfl, h1, h2⟩ := WT.intv Try.underlying3 (hy a (by simp))
      refine ⟨n :: k, ?_⟩
      unfold Zs at *
      simp only [V.els, List.map_cons] at *
      rw [k1]
set_option maxRecDepth 100000 in
theorem tab_of {d : Nat} {x : V} (h : WT Try.prog (d + 3) 27 x) : ∃ rows, Tab x rows := by
  rcases WT.slice Try.underlying27 h with rfl | ⟨l, rfl, hl, hy⟩
  · exact ⟨[], X.tab_nil⟩
  · clear h
    suffices hh : ∃ rows, TabL l rows by
      obtain ⟨rows, hr⟩ := hh
      exact ⟨rows, X.tab_iff.2 hr⟩
    induction l with
    | nil => exact ⟨[], trivial⟩
    | cons a l ih =>
      obtain ⟨rows, k1⟩ := ih (by simp at hl; omega) (fun y hm => hy y (by simp [hm]))
      obtain ⟨r, hr⟩ := zs_of (hy a (by simp))
      exact ⟨r :: rows, hr, k1⟩
set_option maxRecDepth 100000 in
theorem draft_of {k : Nat} {x : V} (h : WT Try.prog (k + 4) 24 x) : ∃ (a b c d : Nat) (e : V) (l : List Nat), x = .list [.int a, .int b, .int c, .int d, e] ∧ a ≤ 255 ∧ b ≤ 255 ∧ c ≤ 255 ∧ d ≤ 255 ∧ Ints e l ∧ (∀ y ∈ l, y ≤ 255) ∧ l.length ≤ 9223372036854775807 := by
  obtain ⟨xs, rfl, l0, f0⟩ := WT.struct Try.underlying24 h
  match xs, l0 with
  | [a, b, c, d, e], _ =>
  obtain ⟨a, rfl, a1, a2⟩ := WT.intv Try.underlying5 (f0 0 _ _ rfl rfl)
  obtain ⟨b, rfl, b1, b2⟩ := WT.intv Try.underlying5 (f0 1 _ _ rfl rfl)
  obtain ⟨c, rfl, c1, c2⟩ := WT.intv Try.underlying5 (f0 2 _ _ rfl rfl)
  obtain ⟨d, rfl, d1, d2⟩ := WT.intv Try.underlying5 (f0 3 _ _ rfl rfl)
  obtain ⟨l, i1, i2, i3⟩ := ints_of (f0 4 _ _ rfl rfl)
  have a1 : (0 : Int) ≤ a := a1
  have a2 : a ≤ 255 := a2
  have b1 : (0 : Int) ≤ b := b1
  have b2 : b ≤ 255 := b2
  have c1 : (0 : Int) ≤ c := c1
  have c2 : c ≤ 255 := c2
  have d1 : (0 : Int) ≤ d := d1
  have d2 : d ≤ 255 := d2
  obtain ⟨a, rfl⟩ : ∃ m : Nat, a = m := ⟨a.toNat, by omega⟩
  obtain ⟨b, rfl⟩ : ∃ m : Nat, b = m := ⟨b.toNat, by omega⟩
  obtain ⟨c, rfl⟩ : ∃ m : Nat, c = m := ⟨c.toNat, by omega⟩
  obtain ⟨d, rfl⟩ : ∃ m : Nat, d = m := ⟨d.toNat, by omega⟩
  have hm : Go.maxLen ≤ 9223372036854775807 := by decide
  exact ⟨a, b, c, d, e, l, rfl, by omega, by omega, by omega, by omega, i1, i2, by omega⟩
set_option maxRecDepth 100000 in
theorem bend_of {k : Nat} {x : V} (h : WT Try.prog (k + 4) 26 x) : ∃ (a b c : Nat) (d : Int), x = .list [.int a, .int b, .int c, .int d] ∧ a ≤ 255 ∧ b ≤ 255 ∧ c ≤ 255 ∧ -9223372036854775808 ≤ d ∧ d ≤ 9223372036854775807 := by
  obtain ⟨xs, rfl, l0, f0⟩ := WT.struct Try.underlying26 h
  match xs, l0 with
  | [a, b, c, d], _ =>
  obtain ⟨a, rfl, a1, a2⟩ := WT.intv Try.underlying5 (f0 0 _ _ rfl rfl)
  obtain ⟨b, rfl, b1, b2⟩ := WT.intv Try.underlying5 (f0 1 _ _ rfl rfl)
  obtain ⟨c, rfl, c1, c2⟩ := WT.intv Try.underlying5 (f0 2 _ _ rfl rfl)
  obtain ⟨d, rfl, d1, d2⟩ := WT.intv Try.underlying3 (f0 3 _ _ rfl rfl)
  have a1 : (0 : Int) ≤ a := a1
  have a2 : a ≤ 255 := a2
  have b1 : (0 : Int) ≤ b := b1
  have b2 : b ≤ 255 := b2
  have c1 : (0 : Int) ≤ c := c1
  have c2 : c ≤ 255 := c2
  have d1 : (-9223372036854775808 : Int) ≤ d := d1
  have d2 : d ≤ 9223372036854775807 := d2
  obtain ⟨a, rfl⟩ : ∃ m : Nat, a = m := ⟨a.toNat, by omega⟩
  obtain ⟨b, rfl⟩ : ∃ m : Nat, b = m := ⟨b.toNat, by omega⟩
  obtain ⟨c, rfl⟩ : ∃ m : Nat, c = m := ⟨c.toNat, by omega⟩
  exact ⟨a, b, c, d, rfl, by omega, by omega, by omega, d1, d2⟩
set_option maxRecDepth 100000 in
theorem raw_of {k : Nat} {x : V} (h : WT Try.prog (k + 4) 29 x) : ∃ (G C o : Int) (R : V) (rows : List (List Int)), x = gm G C o R ∧ Tab R rows ∧ -9223372036854775808 ≤ G ∧ G ≤ 9223372036854775807 ∧ -9223372036854775808 ≤ C ∧ C ≤ 9223372036854775807 ∧ -9223372036854775808 ≤ o ∧ o ≤ 9223372036854775807 := by
  obtain ⟨xs, rfl, l0, f0⟩ := WT.struct Try.underlying29 h
  match xs, l0 with
  | [a, b, c, d], _ =>
  obtain ⟨a, rfl, a1, a2⟩ := WT.intv Try.underlying3 (f0 0 _ _ rfl rfl)
  obtain ⟨b, rfl, b1, b2⟩ := WT.intv Try.underlying3 (f0 1 _ _ rfl rfl)
  obtain ⟨c, rfl, c1, c2⟩ := WT.intv Try.underlying3 (f0 2 _ _ rfl rfl)
  obtain ⟨rows, hr⟩ := tab_of (f0 3 _ _ rfl rfl)
  exact ⟨a, b, c, d, rows, rfl, hr, a1, a2, b1, b2, c1, c2⟩
end Go.Proofs.Ytildjgdhdcoojaa.Par
