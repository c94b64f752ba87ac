/- Texts of the claim: Hid3, Hid4, Hid5, Hid6, Hid7, Hid8, Hid9, WTt, ParH. -/
import Derived.Test.YtildjgdhdcoojaaDoorZ11
import Derived.Test.YtildjgdhdcoojaaDoorRows
import Derived.WalkKit
set_option linter.unusedVariables false
set_option linter.unusedSimpArgs false
namespace X
open Go Go.a9 Go.Sym
def hm (G : Int) (F S W : V) : V := .list [.int G, F, S, W]
structure HMod (G : Int) (F S W : V) (f : List Int) (s w : List (List Int)) : Prop where
 first : Zs F f
 step : cT S s
 Bk : cT W w
 f6 : f.length <= 6
 s6 : s.length <= 6
 w6 : w.length <= 6
 sr : ∀ r ∈ s, r.length <= 6
 wr : ∀ r ∈ w, r.length <= 6
def kQ (w : List (List Int)) : Nat := (w.headD []).length
def mS (G : Int) (f : List Int) (s w : List (List Int)) : Bool :=
 decide (1 <= G /\ G <= 12 /\ 1 <= f.length /\ f.length <= 4 /\ w.length = f.length /\ 1 <= kQ w /\ kQ w <= 4) && (er G f.length f && ((nX G f.length s && decide ((s.length : Int) = f.length)) && (nX G (kQ w) w && decide ((w.length : Int) = f.length))))
theorem vK {W : V} {w : List (List Int)} (t : cT W w) (h : 0 < w.length) : (W.get 0).len = (kQ w : Int) := by
 have := (t.row 0 _ (List.getElem?_eq_getElem h)).len
 rw [show ((0 : Nat) : Int) = 0 from rfl] at this
 rw [this]; unfold kQ
 cases w with
 | nil => simp at h
 | cons a l => rfl
theorem xo {G : Int} {F S W : V} {f : List Int} {s w : List (List Int)} (M : HMod G F S W f s w) : Fn prog hvalid.f [hm G F S W] (.bool (mS G f s w)) := by
 have m0 : ((hm G F S W).get 0).ab = G := rfl
 have m1 : (hm G F S W).get 1 = F := rfl
 have m2 : (hm G F S W).get 2 = S := rfl
 have m3 : (hm G F S W).get 3 = W := rfl
 have lf := M.first.len
 have ls := M.step.cX
 have lw := M.Bk.cX
 have h1 := M.f6
 have h2 := M.s6
 have h3 := M.w6
 refine Fn.of (C := hvalid.K) hvalid.b ?_
 by_cases c : 1 <= G /\ G <= 12 /\ 1 <= f.length /\ f.length <= 4 /\ w.length = f.length
 rotate_left
 ·have e : mS G f s w = false := by
   unfold mS
   rw [decide_eq_false (fun q => c ⟨q.1, q.2.1, q.2.2.1, q.2.2.2.1, q.2.2.2.2.1⟩), Bool.false_and]
  rw [e]
  by_cases a0 : G < 1
  ·refine Comes.last aa hvalid.p0 [] ?_ rfl
   simp only [HM, FT, IB, ag, E.b, E.i, E.v, Env.ext, aO]; rw [m0]; omega
  by_cases a1 : 12 < G
  ·refine Comes.last aa hvalid.p1 [] ?_ rfl
   simp only [HM, FT, IB, ag, E.b, E.i, E.v, Env.ext, aO]; rw [m0]; omega
  by_cases a2 : f.length < 1
  ·refine Comes.last aa hvalid.p2 [] ?_ rfl
   simp only [HM, FT, IB, ag, E.b, E.i, E.v, Env.ext, aO]; rw [m0, m1, lf]; omega
  by_cases a3 : 4 < f.length
  ·refine Comes.last aa hvalid.p3 [] ?_ rfl
   simp only [HM, FT, IB, ag, E.b, E.i, E.v, Env.ext, aO]; rw [m0, m1, lf]; omega
  ·refine Comes.last aa hvalid.p4 [] ?_ rfl
   simp only [HM, FT, IB, ag, E.b, E.i, E.v, Env.ext, aO]; rw [m0, m1, m3, lf, lw]; omega
 obtain ⟨c1, c2, c3, c4, c5⟩ := c
 have hw0 := vK M.Bk (by omega)
 by_cases k1 : 1 <= kQ w
 rotate_left
 ·have e : mS G f s w = false := by
   unfold mS
   rw [decide_eq_false (fun q => k1 q.2.2.2.2.2.1), Bool.false_and]
  rw [e]
  refine Comes.last aa hvalid.p9 [] ?_ rfl
  simp only [HM, FT, IB, ag, E.b, E.i, E.v, Env.ext, aO]; rw [m0, m1, m3, lf, lw, hw0]; omega
 by_cases k2 : kQ w <= 4
 rotate_left
 ·have e : mS G f s w = false := by
   unfold mS
   rw [decide_eq_false (fun q => k2 q.2.2.2.2.2.2), Bool.false_and]
  rw [e]
  refine Comes.last aa hvalid.p8 [] ?_ rfl
  simp only [HM, FT, IB, ag, E.b, E.i, E.v, Env.ext, aO]; rw [m0, m1, m3, lf, lw, hw0]; omega
 have e : mS G f s w = (er G f.length f && ((nX G f.length s && decide ((s.length : Int) = f.length)) && (nX G (kQ w) w && decide ((w.length : Int) = f.length)))) := by
  unfold mS
  rw [decide_eq_true ⟨c1, c2, c3, c4, c5, k1, k2⟩, Bool.true_and]
 rw [e]
 have f1 := uK M.first (by omega) (G := G) f.length (by omega) c2
 have f2 := sS M.step (by omega) (fun r h => by have := M.sr r h; omega) (G := G) f.length f.length (by omega) c2
 have f3 := sS M.Bk (by omega) (fun r h => by have := M.wr r h; omega) (G := G) f.length (kQ w) (by omega) c2
 cases hb1 : er G f.length f with
 | false =>
  rw [hb1] at f1
  simp only [Bool.false_and]
  refine Comes.last aa hvalid.p7 [.bool false] ?_ rfl
  simp only [HM, FT, IB, ag, E.b, E.i, E.v, Env.ext, aO]; rw [m0, m1, m3, lf, lw, hw0]
  exact ⟨by omega, by omega, by omega, by omega, by omega, by omega, by omega, by omega, f1⟩
 | true =>
  rw [hb1] at f1
  simp only [Bool.true_and]
  cases hb2 : (nX G f.length s && decide ((s.length : Int) = f.length)) with
  | false =>
   rw [hb2] at f2
   simp only [Bool.false_and]
   refine Comes.last aa hvalid.p6 [.bool true, .bool false] ?_ rfl
   simp only [HM, FT, IB, ag, E.b, E.i, E.v, Env.ext, aO]; rw [m0, m1, m2, m3, lf, lw, hw0]
   exact ⟨by omega, by omega, by omega, by omega, by omega, by omega, by omega, by omega, f1, f2⟩
  | true =>
   rw [hb2] at f2
   simp only [Bool.true_and]
   refine Comes.last aa hvalid.p5 [.bool true, .bool true, .bool (nX G (kQ w) w && decide ((w.length : Int) = f.length))] ?_ (by simp [E.v, Env.ext, E.b, V.eI])
   simp only [HM, FT, IB, ag, E.b, E.i, E.v, Env.ext, aO]; rw [m0, m1, m2, m3, lf, lw, hw0]
   exact ⟨by omega, by omega, by omega, by omega, by omega, by omega, by omega, by omega, f1, f2, f3⟩
end X
namespace X
open Go Go.a9 Go.Sym
theorem pf {G : Int} : ∀ {l : List Int} {s t : Int}, ny G s l = some t ↔ (∀ x ∈ l, 0 <= x /\ x <= G) /\ t = s + l.sum
 | [], s, t => by simp [ny, eq_comm]
 | w :: r, s, t => by
  unfold ny
  by_cases h : w < 0 \/ G < w
  ·rw [if_pos h]
   constructor
   ·intro q; cases q
   ·rintro ⟨q, _⟩; have := q w (by simp); omega
  ·rw [if_neg h, pf (l := r)]
   simp only [List.mem_cons, forall_eq_or_imp, List.sum_cons]
   constructor
   ·rintro ⟨a, b⟩; exact ⟨⟨by omega, a⟩, by omega⟩
   ·rintro ⟨⟨a, b⟩, c⟩; exact ⟨b, by omega⟩
theorem cy {G n : Int} {l : List Int} : er G n l = true ↔ (l.length : Int) = n /\ (∀ x ∈ l, 0 <= x /\ x <= G) /\ l.sum = G := by
 unfold er
 cases h : ny G 0 l with
 | none =>
  constructor
  ·intro q; cases q
  ·rintro ⟨_, b, c⟩
   have : ny G 0 l = some (0 + l.sum) := pf.2 ⟨b, rfl⟩
   rw [h] at this; cases this
 | some s =>
  obtain ⟨k1, k2⟩ := pf.1 h
  by_cases hn : (l.length : Int) = n
  ·simp only [if_pos hn, decide_eq_true_eq]
   constructor
   ·intro q; exact ⟨hn, k1, by omega⟩
   ·rintro ⟨_, _, c⟩; omega
  ·simp only [if_neg hn]
   constructor
   ·intro q; cases q
   ·rintro ⟨q, _⟩; exact absurd q hn
structure g8 (G : Int) (f : List Int) (s w : List (List Int)) (n k : Nat) : Prop where
 g1 : 1 <= G
 g2 : G <= 12
 n1 : 1 <= n
 n4 : n <= 4
 k1 : 1 <= k
 k4 : k <= 4
 fl : f.length = n
 sl : s.length = n
 wl : w.length = n
 fr : er G n f = true
 sr : ∀ r ∈ s, er G n r = true
 wr : ∀ r ∈ w, er G k r = true
theorem vr {G : Int} {f : List Int} {s w : List (List Int)} : mS G f s w = true ↔ ∃ n k, g8 G f s w n k := by
 unfold mS nX
 simp only [Bool.and_eq_true, decide_eq_true_eq, List.all_eq_true]
 constructor
 ·rintro ⟨⟨a1, a2, a3, a4, a5, a6, a7⟩, b, ⟨c, d⟩, ⟨e, f'⟩⟩
  exact ⟨f.length, kQ w, a1, a2, a3, a4, a6, a7, rfl, by omega, by omega, b, c, e⟩
 ·rintro ⟨n, k, H⟩
  have hk : kQ w = k := by
   unfold kQ
   cases hw : w with
   | nil => have := H.wl; have := H.n1; rw [hw] at *; simp at *; omega
   | cons a l =>
    have := (cy.1 (H.wr a (by rw [hw]; simp))).1
    simp; omega
  have := H.fl; have := H.sl; have := H.wl; have := H.g1; have := H.g2; have := H.n1; have := H.n4; have := H.k1; have := H.k4
  refine ⟨⟨by omega, by omega, by omega, by omega, by omega, by omega, by omega⟩, ?_, ⟨?_, by omega⟩, ⟨?_, by omega⟩⟩
  ·rw [H.fl]; exact H.fr
  ·rw [H.fl]; exact H.sr
  ·rw [hk]; exact H.wr
theorem g8.mod {G : Int} {f : List Int} {s w : List (List Int)} {n k : Nat} (H : g8 G f s w n k) {F S W : V} (h1 : Zs F f) (h2 : cT S s) (h3 : cT W w) : HMod G F S W f s w :=
 ⟨h1, h2, h3, by have := H.fl; have := H.n4; omega, by have := H.sl; have := H.n4; omega, by have := H.wl; have := H.n4; omega,
  fun r hr => by have := (cy.1 (H.sr r hr)).1; have := H.n4; omega, fun r hr => by have := (cy.1 (H.wr r hr)).1; have := H.k4; omega⟩
theorem kH {a : V} {l : List Nat} (ha : a8 a l) (hl : ∀ x ∈ l, x <= 255) {n G : Nat} (n1 : 1 <= n) (n2 : n <= 1000) (hG : G <= 1000) : ∃ r L, a8 r L /\ L.length = n /\ L.sum = G /\ Fn prog eZ.f [.int n, .int G, a] r := by
 have la := ha.len
 have loop : ∀ (t i left : Nat) (i' left' : Int) (out : V) (L : List Nat), t + i = n -> i' = i -> left' = left -> a8 out L -> L.length = i -> L.sum + left = G -> (t = 0 -> left = 0) -> ∃ r, (∃ L, a8 r L /\ L.length = n /\ L.sum = G) /\ Comes eZ.K eZ.f eZ.s1 ⟨[left', i'], [], [.int n, .int G, a, out]⟩ r := by
  intro t
  induction t with
  | zero =>
   intro i left i' left' out L ht hi hle hout hL hs h0
   subst hi hle
   refine ⟨out, ⟨L, hout, by omega, by have := h0 rfl; omega⟩, Comes.last aa eZ.p4 [] ?_ ?_⟩
   ·simp only [HM, FT, IB, ag, E.b, E.i, E.v, Env.ext, aO]; omega
   ·simp only [HM, FT, IB, ag, E.b, E.i, E.v, Env.ext, aO]
  | succ t ih =>
   intro i left i' left' out L ht hi hle hout hL hs h0
   subst hi hle
   have lo := hout.len
   by_cases h1 : i < n - 1
   ·by_cases h2 : i < l.length
    ·obtain ⟨d, hd⟩ : ∃ e, l[i]? = some e := ⟨_, List.getElem?_eq_getElem h2⟩
     have gd := ha.get hd
     have hd255 := hl d (List.mem_of_getElem? hd)
     have hm : ((d : Int)).tmod ((left : Int) + 1) = ((d % (left + 1) : Nat) : Int) := by rw [Int.tmod_eq_emod_of_nonneg (by omega)]; rfl
     have hlt : d % (left + 1) < left + 1 := Nat.mod_lt _ (by omega)
     obtain ⟨r, r1, r2⟩ := ih (i + 1) (left - d % (left + 1)) ((i : Int) + 1) ((left : Int) - ((a.get (i : Int)).ab).tmod ((left : Int) + 1)) (out.snoc (.int (((a.get (i : Int)).ab).tmod ((left : Int) + 1)))) (L ++ [d % (left + 1)]) (by omega) (by omega) (by rw [gd, hm]; omega) (by rw [gd, hm]; exact hout.snoc _) (by simp [hL]) (by simp; omega) (by omega)
     refine ⟨r, r1, Comes.step aa eZ.p1 [] ?_ r2⟩
     simp only [HM, FT, IB, ag, E.b, E.i, E.v, Env.ext, aO]
     rw [gd, hm]
     omega
    ·obtain ⟨r, r1, r2⟩ := ih (i + 1) left ((i : Int) + 1) ((left : Int) - 0) (out.snoc (.int 0)) (L ++ [0]) (by omega) (by omega) (by omega) (hout.snoc 0) (by simp [hL]) (by simp; omega) (by omega)
     refine ⟨r, r1, Comes.step aa eZ.p2 [] ?_ r2⟩
     simp only [HM, FT, IB, ag, E.b, E.i, E.v, Env.ext, aO]
     omega
   ·obtain ⟨r, r1, r2⟩ := ih (i + 1) 0 ((i : Int) + 1) ((left : Int) - left) (out.snoc (.int left)) (L ++ [left]) (by omega) (by omega) (by omega) (hout.snoc _) (by simp [hL]) (by simp; omega) (by omega)
    refine ⟨r, r1, Comes.step aa eZ.p3 [] ?_ r2⟩
    simp only [HM, FT, IB, ag, E.b, E.i, E.v, Env.ext, aO]
    omega
 obtain ⟨r, ⟨L, h1, h2, h3⟩, r2⟩ := loop n 0 G 0 G .nil [] (by omega) rfl rfl jX rfl (by simp) (by omega)
 exact ⟨r, L, h1, h2, h3, Fn.of (C := eZ.K) eZ.b (Comes.step aa eZ.p0 [] trivial r2)⟩
structure Dr (D : V) (g n k : Nat) (l : List Nat) (e : List Nat) (L S : V) : Prop where
 eq : D = .list [.int g, .int n, .int k, L, S]
 g : g <= 255
 n : n <= 255
 k : k <= 255
 L : a8 L l
 S : a8 S e
 lx : ∀ x ∈ l, x <= 255
 ex : ∀ x ∈ e, x <= 255
 ll : l.length <= 9223372036854775807
 el : e.length <= 9223372036854775807
theorem xy {D : V} {g n k : Nat} {l e : List Nat} {L S : V} (X : Dr D g n k l e L S) (at_ : Nat) (ha : at_ <= 1000) : ∃ r p, a8 r p /\ (∀ x ∈ p, x <= 255) /\ p.length <= 4 /\ Fn prog fD.f [D, .int at_] r := by
 have hD := X.eq
 have e3 : D.get 3 = L := by rw [hD]; rfl
 have lL := X.L.len
 have ll := X.ll
 by_cases h0 : l.length = 0
 ·refine ⟨.nil, [], jX, by simp, by simp, Fn.of (C := fD.K) fD.b (Comes.last aa fD.p0 [] ?_ ?_)⟩
  ·simp only [HM, FT, IB, ag, E.b, E.i, E.v, Env.ext, aO]; rw [e3, lL]; omega
  ·simp only [HM, FT, IB, ag, E.b, E.i, E.v, Env.ext, aO]
 ·have loop : ∀ (t i : Nat) (i' : Int) (o : V) (p : List Nat), t + i = 4 -> i' = i -> a8 o p -> p.length = i -> (∀ x ∈ p, x <= 255) -> ∃ r, (∃ p, a8 r p /\ (∀ x ∈ p, x <= 255) /\ p.length <= 4) /\ Comes fD.K fD.f fD.s1 ⟨[i'], [], [D, .int at_, o]⟩ r := by
   intro t
   induction t with
   | zero =>
    intro i i' o p ht hi ho hp hx
    subst hi
    refine ⟨o, ⟨p, ho, hx, by omega⟩, Comes.last aa fD.p3 [] ?_ ?_⟩
    ·simp only [HM, FT, IB, ag, E.b, E.i, E.v, Env.ext, aO]; omega
    ·simp only [HM, FT, IB, ag, E.b, E.i, E.v, Env.ext, aO]
   | succ t ih =>
    intro i i' o p ht hi ho hp hx
    subst hi
    have lo := ho.len
    have hm : ((at_ : Int) + i).tmod (l.length : Int) = (((at_ + i) % l.length : Nat) : Int) := by
     rw [Int.tmod_eq_emod_of_nonneg (by omega)]; rfl
    have hlt : (at_ + i) % l.length < l.length := Nat.mod_lt _ (by omega)
    obtain ⟨d, hd⟩ : ∃ e, l[(at_ + i) % l.length]? = some e := ⟨_, List.getElem?_eq_getElem hlt⟩
    have gd := X.L.get hd
    have hd255 := X.lx d (List.mem_of_getElem? hd)
    obtain ⟨r, r1, r2⟩ := ih (i + 1) ((i : Int) + 1) (o.snoc (.int d)) (p ++ [d]) (by omega) (by omega) (ho.snoc d) (by simp [hp]) (by intro y hy; simp at hy; rcases hy with hy | hy; exact hx y hy; omega)
    refine ⟨r, r1, Comes.step aa fD.p2 [] ?_ ?_⟩
    ·simp only [HM, FT, IB, ag, E.b, E.i, E.v, Env.ext, aO]; rw [e3, lL, hm]; omega
    ·simp only [Sub.ev, E.v, E.i, Env.ext, aO]
     rw [e3, lL, hm, gd]
     exact r2
  obtain ⟨r, ⟨p, h1, h2, h3⟩, r2⟩ := loop 4 0 0 .nil [] (by omega) rfl jX rfl (by simp)
  refine ⟨r, p, h1, h2, h3, Fn.of (C := fD.K) fD.b (Comes.step aa fD.p1 [] ?_ r2)⟩
  simp only [HM, FT, IB, ag, E.b, E.i, E.v, Env.ext, aO]; rw [e3, lL]; omega
end X
namespace X
open Go Go.a9 Go.Sym
theorem tV : ∀ l : List Nat, (l.map Int.ofNat).sum = (l.sum : Int)
 | [] => rfl
 | a :: l => by simp [tV l]
theorem sJ : ∀ {l : List Nat} {x : Nat}, x ∈ l -> x <= l.sum
 | a :: l, x, h => by
  rcases List.mem_cons.1 h with rfl | h
  ·simp
  ·have := sJ h; simp; omega
theorem DA {G n : Nat} {l : List Nat} (h1 : l.length = n) (h2 : l.sum = G) : er G n (l.map Int.ofNat) = true := by
 refine cy.2 ⟨by simp [h1], ?_, by rw [tV, h2]⟩
 intro x hx
 obtain ⟨y, hy, rfl⟩ := List.mem_map.1 hx
 have := sJ hy
 exact ⟨Int.natCast_nonneg _, by simp; omega⟩
theorem qb {D : V} {g n k : Nat} {l e : List Nat} {L S : V} (X : Dr D g n k l e L S) : ∃ F S' W f s w, g8 ((1 + g % 12 : Nat) : Int) f s w (1 + n % 4) (1 + k % 4) /\ Zs F f /\ cT S' s /\ cT W w /\ Fn prog cL.f [D] (hm ((1 + g % 12 : Nat) : Int) F S' W) := by
 have hD := X.eq
 have e0 : (D.get 0).ab = g := by rw [hD]; rfl
 have e1 : (D.get 1).ab = n := by rw [hD]; rfl
 have e2 : (D.get 2).ab = k := by rw [hD]; rfl
 have e3 : D.get 3 = L := by rw [hD]; rfl
 have e4 : D.get 4 = S := by rw [hD]; rfl
 have m0 : ((g : Int)).tmod 12 = ((g % 12 : Nat) : Int) := dq g 12
 have m1 : ((n : Int)).tmod 4 = ((n % 4 : Nat) : Int) := dq n 4
 have m2 : ((k : Int)).tmod 4 = ((k % 4 : Nat) : Int) := dq k 4
 have b0 : g % 12 < 12 := Nat.mod_lt _ (by omega)
 have b1 : n % 4 < 4 := Nat.mod_lt _ (by omega)
 have b2 : k % 4 < 4 := Nat.mod_lt _ (by omega)
 have frm : ∀ a : Nat, a <= 1000 -> ∃ r p, a8 r p /\ (∀ x ∈ p, x <= 255) /\ Fn prog fD.f [.list [.int g, .int n, .int k, L, S], .int a] r := by
  intro a ha
  obtain ⟨r, p, p1, p2, p3, p4⟩ := xy X a ha
  rw [hD] at p4
  exact ⟨r, p, p1, p2, p4⟩
 generalize hG : g % 12 = G at *
 generalize hN : n % 4 = N at *
 generalize hK : k % 4 = K at *
 obtain ⟨r0, p0, a1, a2, a3⟩ := frm 0 (by omega)
 obtain ⟨F, fl, f1, f2, f3, f4⟩ := kH a1 a2 (n := 1 + N) (G := 1 + G) (by omega) (by omega) (by omega)
 rw [Int.natCast_add, Int.natCast_add] at f4
 have loop : ∀ (t j : Nat) (j' : Int) (x0 A B : V) (s w : List (List Int)), t + j = 1 + N -> j' = j -> cT A s -> cT B w -> s.length = j -> w.length = j -> (∀ r ∈ s, er ((1 + G : Nat) : Int) ((1 + N : Nat) : Int) r = true) -> (∀ r ∈ w, er ((1 + G : Nat) : Int) ((1 + K : Nat) : Int) r = true) ->
   ∃ q, (∃ A B s w, g8 ((1 + G : Nat) : Int) (fl.map Int.ofNat) s w (1 + N) (1 + K) /\ cT A s /\ cT B w /\ q = hm ((1 + G : Nat) : Int) F A B) /\ Comes cL.K cL.f cL.s1 ⟨[j'], [], [D, x0, F, A, B]⟩ q := by
  intro t
  induction t with
  | zero =>
   intro j j' x0 A B s w ht hj hA hB hs hw hr1 hr2
   subst hj
   refine ⟨_, ⟨A, B, s, w, ⟨by omega, by omega, by omega, by omega, by omega, by omega, by simp [f2], by omega, by omega, DA f2 f3, hr1, hr2⟩, hA, hB, rfl⟩, Comes.last aa cL.p2 [] ?_ ?_⟩
   ·simp only [HM, FT, IB, ag, E.b, E.i, E.v, Env.ext, aO]; rw [e1, m1]; omega
   ·simp only [HM, FT, IB, ag, E.b, E.i, E.v, Env.ext, aO]; rw [e0, m0]; rfl
  | succ t ih =>
   intro j j' x0 A B s w ht hj hA hB hs hw hr1 hr2
   subst hj
   obtain ⟨r1, q1, a1, a2, a3⟩ := frm (4 + 8 * j) (by omega)
   obtain ⟨x, xl, x1, x2, x3, x4⟩ := kH a1 a2 (n := 1 + N) (G := 1 + G) (by omega) (by omega) (by omega)
   obtain ⟨r2, q2, c1, c2, c3⟩ := frm (8 + 8 * j) (by omega)
   obtain ⟨y, yl, y1, y2, y3, y4⟩ := kH c1 c2 (n := 1 + K) (G := 1 + G) (by omega) (by omega) (by omega)
   rw [Int.natCast_add, Int.natCast_add] at x4 y4
   rw [Int.natCast_add, Int.natCast_mul] at a3 c3
   obtain ⟨q, z1, z2⟩ := ih (j + 1) ((j : Int) + 1) x0 (A.snoc x) (B.snoc y) (s ++ [xl.map Int.ofNat]) (w ++ [yl.map Int.ofNat]) (by omega) (by omega) (hA.snoc (a8.zs x1)) (hB.snoc (a8.zs y1)) (by simp [hs]) (by simp [hw])
    (by intro r hr; simp only [List.mem_append, List.mem_singleton] at hr; rcases hr with hr | rfl; exact hr1 r hr; exact DA x2 x3)
    (by intro r hr; simp only [List.mem_append, List.mem_singleton] at hr; rcases hr with hr | rfl; exact hr2 r hr; exact DA y2 y3)
   refine ⟨q, z1, Comes.step aa cL.p1 [r1, x, r2, y] ?_ z2⟩
   simp only [HM, FT, IB, ag, E.b, E.i, E.v, Env.ext, aO]
   rw [e0, e1, e2, e3, e4, m0, m1, m2, hA.cX, hB.cX]
   exact ⟨by omega, by omega, by omega, a3, x4, by omega, by omega, by omega, c3, y4, by omega, by omega⟩
 obtain ⟨q, ⟨A, B, s, w, H, hA, hB, rfl⟩, q2⟩ := loop (1 + N) 0 0 r0 .nil .nil [] [] (by omega) rfl jh jh rfl rfl (by simp) (by simp)
 refine ⟨F, A, B, _, s, w, H, (a8.zs f1), hA, hB, Fn.of (C := cL.K) cL.b (Comes.step aa cL.p0 [r0, F] ?_ q2)⟩
 simp only [HM, FT, IB, ag, E.b, E.i, E.v, Env.ext, aO]
 rw [e0, e1, e2, e3, e4, m0, m1, m2]
 exact ⟨by omega, by omega, by omega, by omega, by omega, by omega, a3, f4⟩
theorem tA {D : V} {g n k : Nat} {l e : List Nat} {L S : V} (X : Dr D g n k l e L S) : ∃ r o, Zs r o /\ 1 <= o.length /\ o.length <= 8 /\ (∀ x ∈ o, -1 <= x /\ x < ((1 + k % 4 : Nat) : Int)) /\ Fn prog cP.f [D] r := by
 have hD := X.eq
 have e2 : (D.get 2).ab = k := by rw [hD]; rfl
 have e4 : D.get 4 = S := by rw [hD]; rfl
 have m2 : ((k : Int)).tmod 4 = ((k % 4 : Nat) : Int) := dq k 4
 have b2 : k % 4 < 4 := Nat.mod_lt _ (by omega)
 have lS := X.S.len
 have elx := X.el
 have loop : ∀ (t i : Nat) (i' : Int) (o : V) (p : List Int), t + i = 8 -> i' = i -> Zs o p -> p.length = i -> i <= e.length -> (∀ x ∈ p, -1 <= x /\ x < ((1 + k % 4 : Nat) : Int)) -> ∃ r, (∃ p, Zs r p /\ 1 <= p.length /\ p.length <= 8 /\ (∀ x ∈ p, -1 <= x /\ x < ((1 + k % 4 : Nat) : Int))) /\ Comes cP.K cP.f cP.s1 ⟨[i'], [], [D, o]⟩ r := by
  intro t
  induction t with
  | zero =>
   intro i i' o p ht hi ho hp hie hx
   subst hi
   have lo := ho.len
   by_cases h1 : i < e.length
   ·refine ⟨o, ⟨p, ho, by omega, by omega, hx⟩, Comes.last aa cP.p3 [] ?_ ?_⟩
    ·simp only [HM, FT, IB, ag, E.b, E.i, E.v, Env.ext, aO]; rw [e4, lS, lo]; omega
    ·simp only [HM, FT, IB, ag, E.b, E.i, E.v, Env.ext, aO]
   ·refine ⟨o, ⟨p, ho, by omega, by omega, hx⟩, Comes.last aa cP.p5 [] ?_ ?_⟩
    ·simp only [HM, FT, IB, ag, E.b, E.i, E.v, Env.ext, aO]; rw [e4, lS, lo]; omega
    ·simp only [HM, FT, IB, ag, E.b, E.i, E.v, Env.ext, aO]
  | succ t ih =>
   intro i i' o p ht hi ho hp hie hx
   subst hi
   have lo := ho.len
   by_cases h1 : i < e.length
   ·obtain ⟨d, hd⟩ : ∃ x, e[i]? = some x := ⟨_, List.getElem?_eq_getElem h1⟩
    have gd := X.S.get hd
    have hd255 := X.ex d (List.mem_of_getElem? hd)
    have hm : ((d : Int)).tmod (2 + ((k % 4 : Nat) : Int)) = ((d % (2 + k % 4) : Nat) : Int) := by
     have := dq d (2 + k % 4)
     rw [<- this]; congr 1
    have hlt : d % (2 + k % 4) < 2 + k % 4 := Nat.mod_lt _ (by omega)
    obtain ⟨r, r1, r2⟩ := ih (i + 1) ((i : Int) + 1) (o.snoc (.int (((d % (2 + k % 4) : Nat) : Int) - 1))) (p ++ [((d % (2 + k % 4) : Nat) : Int) - 1]) (by omega) (by omega) (ho.snoc _) (by simp [hp]) (by omega) (by
     intro y hy; simp only [List.mem_append, List.mem_singleton] at hy
     rcases hy with hy | rfl
     ·exact hx y hy
     ·omega)
    refine ⟨r, r1, Comes.step aa cP.p1 [] ?_ ?_⟩
    ·simp only [HM, FT, IB, ag, E.b, E.i, E.v, Env.ext, aO]; rw [e2, e4, lS, lo, gd, m2, hm]; omega
    ·simp only [Sub.ev, E.v, E.i, Env.ext, aO]
     rw [e2, e4, gd, m2, hm]
     exact r2
   ·by_cases h0 : i = 0
    ·subst h0
     refine ⟨.list [.int (-1)], ⟨[-1], rfl, by simp, by simp, by simp; omega⟩, Comes.last aa cP.p4 [] ?_ ?_⟩
     ·simp only [HM, FT, IB, ag, E.b, E.i, E.v, Env.ext, aO]; rw [e4, lS, lo]; omega
     ·simp only [HM, FT, IB, ag, E.b, E.i, E.v, Env.ext, aO]; rfl
    ·refine ⟨o, ⟨p, ho, by omega, by omega, hx⟩, Comes.last aa cP.p5 [] ?_ ?_⟩
     ·simp only [HM, FT, IB, ag, E.b, E.i, E.v, Env.ext, aO]; rw [e4, lS, lo]; omega
     ·simp only [HM, FT, IB, ag, E.b, E.i, E.v, Env.ext, aO]
 obtain ⟨r, ⟨p, h1, h2, h3, h4⟩, r2⟩ := loop 8 0 0 .nil [] (by omega) rfl rfl rfl (by omega) (by simp)
 exact ⟨r, p, h1, h2, h3, h4, Fn.of (C := cP.K) cP.b (Comes.step aa cP.p0 [] trivial r2)⟩
end X
namespace X
open Go Go.a9 Go.Sym
theorem gP {R : V} {rows : List (List Int)} (Ah : cT R rows) (hl : rows.length <= 1000) (h6 : ∀ r ∈ rows, r.length <= 1000) : ∃ R', cT R' rows /\ Cq prog eO.f [R] R' := by
 have xl := Ah.cX
 have loop : ∀ (t i : Nat) (i' : Int) (o : V), t + i = rows.length -> i' = i -> cT o (rows.take i) -> ∃ R', cT R' rows /\ fI eO.K eO.f eO.s1 ⟨[i'], [], [R, o]⟩ R' := by
  intro t
  induction t with
  | zero =>
   intro i i' o ht hi ho
   subst hi
   rw [List.take_of_length_le (by omega)] at ho
   refine ⟨o, ho, fI.last aa eO.p2 [] ?_ ?_⟩
   ·simp only [HM, FT, IB, ag, E.b, E.i, E.v, Env.ext, aO]; rw [xl]; omega
   ·simp only [HM, FT, IB, ag, E.b, E.i, E.v, Env.ext, aO]
  | succ t ih =>
   intro i i' o ht hi ho
   subst hi
   have lo := ho.cX
   rw [List.length_take, Nat.min_eq_left (by omega)] at lo
   obtain ⟨r, hr⟩ : ∃ r, rows[i]? = some r := ⟨_, List.getElem?_eq_getElem (by omega)⟩
   have hz := Ah.row i r hr
   have hzl := hz.len
   have r4 := h6 r (List.mem_of_getElem? hr)
   obtain ⟨R', q1, q2⟩ := ih (i + 1) ((i : Int) + 1) (o.snoc (V.app .nil (R.get (i : Int)))) (by omega) (by omega) (by rw [List.take_add_one, hr]; exact ho.snoc hz.copy)
   refine ⟨R', q1, fI.step aa eO.p1 [] ?_ q2⟩
   simp only [HM, FT, IB, ag, E.b, E.i, E.v, Env.ext, aO]; rw [xl, hzl, lo]; omega
 obtain ⟨R', q1, q2⟩ := loop rows.length 0 0 .nil (by omega) rfl jh
 exact ⟨R', q1, Cq.of (C := eO.K) eO.b (fI.step aa eO.p0 [] trivial q2)⟩
theorem o8 {rows : List (List Int)} {j : Nat} {r : List Int} (h : ∀ r ∈ rows, r.length <= 4) (hr : r.length <= 6) : ∀ x ∈ rows.set j r, x.length <= 6 := by
 intro x hx
 rcases List.mem_or_eq_of_mem_set hx with q | q
 ·have := h x q; omega
 ·subst q; exact hr
theorem C5 {G : Int} {f : List Int} {s w : List (List Int)} {n k : Nat} (H : g8 G f s w n k) {F S W : V} (h1 : Zs F f) (h2 : cT S s) (h3 : cT W w) {u j a : Nat} {N : Int} (hu : u <= 255) (hj : j <= 255) (ha : a <= 255) (hlo : u % 8 < 4) (hN1 : -9223372036854775808 <= N) (hN2 : N <= 9223372036854775807) :
  ∃ G' F' S' W' f' s' w', HMod G' F' S' W' f' s' w' /\ Fn prog bk.f [.list [.int u, .int j, .int a, .int N], hm G F S W] (hm G' F' S' W') := by
 have n1 := H.n1; have n4 := H.n4; have k1 := H.k1; have k4 := H.k4; have fl := H.fl; have sl := H.sl; have wl := H.wl
 have s4 : ∀ r ∈ s, r.length = n := fun r hr => by have := (cy.1 (H.sr r hr)).1; omega
 have w4 : ∀ r ∈ w, r.length = k := fun r hr => by have := (cy.1 (H.wr r hr)).1; omega
 obtain ⟨S1, t1, c1⟩ := gP h2 (by omega) (fun r hr => by have := s4 r hr; omega)
 obtain ⟨W1, t2, c2⟩ := gP h3 (by omega) (fun r hr => by have := w4 r hr; omega)
 have hF := h1.copy
 have lF := h1.len
 have lF1 := hF.len
 have lS := t1.cX
 have lW := t2.cX
 have g0 : ((hm G F S W).get 0).ab = G := rfl
 have g1 : (hm G F S W).get 1 = F := rfl
 have g2 : (hm G F S W).get 2 = S := rfl
 have g3 : (hm G F S W).get 3 = W := rfl
 generalize hB : V.list [.int u, .int j, .int a, .int N] = B
 have b0 : (B.get 0).ab = u := by rw [<- hB]; rfl
 have b1 : (B.get 1).ab = j := by rw [<- hB]; rfl
 have b2 : (B.get 2).ab = a := by rw [<- hB]; rfl
 have b3 : (B.get 3).ab = N := by rw [<- hB]; rfl
 have hu8 : ((u : Int)).tmod 8 = ((u % 8 : Nat) : Int) := dq u 8
 have hlt : u % 8 < 8 := Nat.mod_lt _ (by omega)
 have hjn : ((j : Int)).tmod (n : Int) = ((j % n : Nat) : Int) := dq j n
 have han : ((a : Int)).tmod (n : Int) = ((a % n : Nat) : Int) := dq a n
 have hak : ((a : Int)).tmod (k : Int) = ((a % k : Nat) : Int) := dq a k
 have ljn : j % n < n := Nat.mod_lt _ (by omega)
 have lan : a % n < n := Nat.mod_lt _ (by omega)
 have lak : a % k < k := Nat.mod_lt _ (by omega)
 obtain ⟨rs, hrs⟩ : ∃ r, s[j % n]? = some r := ⟨_, List.getElem?_eq_getElem (by omega)⟩
 obtain ⟨rw', hrw⟩ : ∃ r, w[j % n]? = some r := ⟨_, List.getElem?_eq_getElem (by omega)⟩
 have zs := t1.row _ _ hrs
 have zw := t2.row _ _ hrw
 have ls := s4 rs (List.mem_of_getElem? hrs)
 have lw := w4 rw' (List.mem_of_getElem? hrw)
 have lzs := zs.len
 have lzw := zw.len
 rw [ls] at lzs
 rw [lw] at lzw
 rw [fl] at lF lF1
 rw [sl] at lS
 rw [wl] at lW
 have f6 : f.length <= 6 := by omega
 have s6 : ∀ r ∈ s, r.length <= 6 := fun r hr => by have := s4 r hr; omega
 have w6 : ∀ r ∈ w, r.length <= 6 := fun r hr => by have := w4 r hr; omega
 have fin : ∀ {e : V}, Fn prog bk.f [B, hm G F S W] e -> Fn prog bk.f [B, hm G F S W] e := fun h => h
 by_cases w0 : u % 8 = 0
 ·refine ⟨N, V.app .nil F, S1, W1, f, s, w, ⟨hF, t1, t2, f6, by omega, by omega, s6, w6⟩, Fn.of (C := bk.K) bk.b (Comes.last aa bk.p0 [S1, W1] ?_ ?_)⟩
  ·simp only [HM, FT, IB, ag, E.b, E.i, E.v, Env.ext, aO]; rw [g1, g2, g3, b0, b1, b2, hu8, lF]; exact ⟨c1, c2, by omega, by omega, by omega, by omega⟩
  ·simp only [HM, FT, IB, ag, E.b, E.i, E.v, Env.ext, aO]; rw [g1, b3]; rfl
 by_cases w1 : u % 8 = 1
 ·refine ⟨G, _, S1, W1, _, s, w, ⟨hF.set (a % n) N, t1, t2, by simpa using f6, by omega, by omega, s6, w6⟩, Fn.of (C := bk.K) bk.b (Comes.last aa bk.p1 [S1, W1] ?_ ?_)⟩
  ·simp only [HM, FT, IB, ag, E.b, E.i, E.v, Env.ext, aO]; rw [g1, g2, g3, b0, b1, b2, hu8, lF1, lF, han]; exact ⟨c1, c2, by omega, by omega, by omega, by omega, by omega, by omega, by omega, by omega⟩
  ·simp only [HM, FT, IB, ag, E.b, E.i, E.v, Env.ext, aO]; rw [g0, g1, b2, b3, lF1, han]; rfl
 by_cases w2 : u % 8 = 2
 ·refine ⟨G, _, _, W1, f, _, w, ⟨hF, t1.set (j % n) (zs.set (a % n) N), t2, f6, by simp; omega, by omega, o8 (fun r hr => by have := s4 r hr; omega) (by simp; omega), w6⟩, Fn.of (C := bk.K) bk.b (Comes.last aa bk.p2 [S1, W1] ?_ ?_)⟩
  ·simp only [HM, FT, IB, ag, E.b, E.i, E.v, Env.ext, aO]; rw [g1, g2, g3, b0, b1, b2, hu8, lF, lS, hjn, lzs, han]; exact ⟨c1, c2, by omega, by omega, by omega, by omega, by omega, by omega, by omega, by omega, by omega, by omega, by omega, by omega, by omega⟩
  ·simp only [HM, FT, IB, ag, E.b, E.i, E.v, Env.ext, aO]; rw [g0, g1, b1, b2, b3, lS, hjn, lzs, han]; rfl
 by_cases w3 : u % 8 = 3
 ·refine ⟨G, _, S1, _, f, s, _, ⟨hF, t1, t2.set (j % n) (zw.set (a % k) N), f6, by omega, by simp; omega, s6, o8 (fun r hr => by have := w4 r hr; omega) (by simp; omega)⟩, Fn.of (C := bk.K) bk.b (Comes.last aa bk.p3 [S1, W1] ?_ ?_)⟩
  ·simp only [HM, FT, IB, ag, E.b, E.i, E.v, Env.ext, aO]; rw [g1, g2, g3, b0, b1, b2, hu8, lF, lW, hjn, lzw, hak]; exact ⟨c1, c2, by omega, by omega, by omega, by omega, by omega, by omega, by omega, by omega, by omega, by omega, by omega, by omega, by omega, by omega⟩
  ·simp only [HM, FT, IB, ag, E.b, E.i, E.v, Env.ext, aO]; rw [g0, g1, b1, b2, b3, lW, hjn, lzw, hak]; rfl
 ·omega
theorem C4 {G : Int} {f : List Int} {s w : List (List Int)} {n k : Nat} (H : g8 G f s w n k) {F S W : V} (h1 : Zs F f) (h2 : cT S s) (h3 : cT W w) {u j a : Nat} {N : Int} (hu : u <= 255) (hj : j <= 255) (ha : a <= 255) (hlo : ¬ u % 8 < 4) (hN1 : -9223372036854775808 <= N) (hN2 : N <= 9223372036854775807) :
  ∃ G' F' S' W' f' s' w', HMod G' F' S' W' f' s' w' /\ Fn prog bk.f [.list [.int u, .int j, .int a, .int N], hm G F S W] (hm G' F' S' W') := by
 have n1 := H.n1; have n4 := H.n4; have k1 := H.k1; have k4 := H.k4; have fl := H.fl; have sl := H.sl; have wl := H.wl
 have s4 : ∀ r ∈ s, r.length = n := fun r hr => by have := (cy.1 (H.sr r hr)).1; omega
 have w4 : ∀ r ∈ w, r.length = k := fun r hr => by have := (cy.1 (H.wr r hr)).1; omega
 obtain ⟨S1, t1, c1⟩ := gP h2 (by omega) (fun r hr => by have := s4 r hr; omega)
 obtain ⟨W1, t2, c2⟩ := gP h3 (by omega) (fun r hr => by have := w4 r hr; omega)
 have hF := h1.copy
 have lF := h1.len
 have lF1 := hF.len
 have lS := t1.cX
 have lW := t2.cX
 have g0 : ((hm G F S W).get 0).ab = G := rfl
 have g1 : (hm G F S W).get 1 = F := rfl
 have g2 : (hm G F S W).get 2 = S := rfl
 have g3 : (hm G F S W).get 3 = W := rfl
 generalize hB : V.list [.int u, .int j, .int a, .int N] = B
 have b0 : (B.get 0).ab = u := by rw [<- hB]; rfl
 have b1 : (B.get 1).ab = j := by rw [<- hB]; rfl
 have b2 : (B.get 2).ab = a := by rw [<- hB]; rfl
 have b3 : (B.get 3).ab = N := by rw [<- hB]; rfl
 have hu8 : ((u : Int)).tmod 8 = ((u % 8 : Nat) : Int) := dq u 8
 have hlt : u % 8 < 8 := Nat.mod_lt _ (by omega)
 have hjn : ((j : Int)).tmod (n : Int) = ((j % n : Nat) : Int) := dq j n
 have han : ((a : Int)).tmod (n : Int) = ((a % n : Nat) : Int) := dq a n
 have hak : ((a : Int)).tmod (k : Int) = ((a % k : Nat) : Int) := dq a k
 have ljn : j % n < n := Nat.mod_lt _ (by omega)
 have lan : a % n < n := Nat.mod_lt _ (by omega)
 have lak : a % k < k := Nat.mod_lt _ (by omega)
 obtain ⟨rs, hrs⟩ : ∃ r, s[j % n]? = some r := ⟨_, List.getElem?_eq_getElem (by omega)⟩
 obtain ⟨rw', hrw⟩ : ∃ r, w[j % n]? = some r := ⟨_, List.getElem?_eq_getElem (by omega)⟩
 have zs := t1.row _ _ hrs
 have zw := t2.row _ _ hrw
 have ls := s4 rs (List.mem_of_getElem? hrs)
 have lw := w4 rw' (List.mem_of_getElem? hrw)
 have lzs := zs.len
 have lzw := zw.len
 rw [ls] at lzs
 rw [lw] at lzw
 rw [fl] at lF lF1
 rw [sl] at lS
 rw [wl] at lW
 have f6 : f.length <= 6 := by omega
 have s6 : ∀ r ∈ s, r.length <= 6 := fun r hr => by have := s4 r hr; omega
 have w6 : ∀ r ∈ w, r.length <= 6 := fun r hr => by have := w4 r hr; omega
 have fin : ∀ {e : V}, Fn prog bk.f [B, hm G F S W] e -> Fn prog bk.f [B, hm G F S W] e := fun h => h
 by_cases w4' : u % 8 = 4
 ·refine ⟨G, _, _, W1, f, _, w, ⟨hF, t1.sub 1 S1.len, t2, f6, by rw [List.length_drop, List.length_take]; omega, by omega, fun r hr => s6 r (List.mem_of_mem_take (List.mem_of_mem_drop hr)), w6⟩, Fn.of (C := bk.K) bk.b (Comes.last aa bk.p4 [S1, W1] ?_ ?_)⟩
  ·simp only [HM, FT, IB, ag, E.b, E.i, E.v, Env.ext, aO]; rw [g1, g2, g3, b0, b1, b2, hu8, lF, lS]; exact ⟨c1, c2, by omega, by omega, by omega, by omega, by omega, by omega, by omega, by omega, by omega, by omega⟩
  ·simp only [HM, FT, IB, ag, E.b, E.i, E.v, Env.ext, aO]; rw [g0, g1]; rfl
 by_cases w5 : u % 8 = 5
 ·refine ⟨G, _, S1, _, f, s, _, ⟨hF, t1, t2.set (j % n) (zw.snoc 0), f6, by omega, by simp; omega, s6, o8 (fun r hr => by have := w4 r hr; omega) (by simp; omega)⟩, Fn.of (C := bk.K) bk.b (Comes.last aa bk.p5 [S1, W1] ?_ ?_)⟩
  ·simp only [HM, FT, IB, ag, E.b, E.i, E.v, Env.ext, aO]; rw [g1, g2, g3, b0, b1, b2, hu8, lF, lW, hjn, lzw]; exact ⟨c1, c2, by omega, by omega, by omega, by omega, by omega, by omega, by omega, by omega, by omega, by omega, by omega, by omega, by omega, by omega, by omega, by omega, by omega⟩
  ·simp only [HM, FT, IB, ag, E.b, E.i, E.v, Env.ext, aO]; rw [g0, g1, b1, lW, hjn]; rfl
 by_cases w6' : u % 8 = 6
 ·refine ⟨G, _, S1, W1, _, s, w, ⟨hF.snoc 0, t1, t2, by simp; omega, by omega, by omega, s6, w6⟩, Fn.of (C := bk.K) bk.b (Comes.last aa bk.p6 [S1, W1] ?_ ?_)⟩
  ·simp only [HM, FT, IB, ag, E.b, E.i, E.v, Env.ext, aO]; rw [g1, g2, g3, b0, b1, b2, hu8, lF, lF1]; exact ⟨c1, c2, by omega, by omega, by omega, by omega, by omega, by omega, by omega, by omega, by omega, by omega, by omega⟩
  ·simp only [HM, FT, IB, ag, E.b, E.i, E.v, Env.ext, aO]; rw [g0, g1]; rfl
 ·refine ⟨G, _, S1, .nil, f, s, [], ⟨hF, t1, jh, f6, by omega, by simp, s6, by simp⟩, Fn.of (C := bk.K) bk.b (Comes.last aa bk.p7 [S1, W1] ?_ ?_)⟩
  ·simp only [HM, FT, IB, ag, E.b, E.i, E.v, Env.ext, aO]; rw [g1, g2, g3, b0, b1, b2, hu8, lF]; exact ⟨c1, c2, by omega, by omega, by omega, by omega, by omega, by omega, by omega, by omega, by omega, by omega⟩
  ·simp only [HM, FT, IB, ag, E.b, E.i, E.v, Env.ext, aO]; rw [g0, g1]; rfl
theorem tR {G : Int} {f : List Int} {s w : List (List Int)} {n k : Nat} (H : g8 G f s w n k) {F S W : V} (h1 : Zs F f) (h2 : cT S s) (h3 : cT W w) {u j a : Nat} {N : Int} (hu : u <= 255) (hj : j <= 255) (ha : a <= 255) (hN1 : -9223372036854775808 <= N) (hN2 : N <= 9223372036854775807) :
  ∃ G' F' S' W' f' s' w', HMod G' F' S' W' f' s' w' /\ Fn prog bk.f [.list [.int u, .int j, .int a, .int N], hm G F S W] (hm G' F' S' W') := by
 by_cases q : u % 8 < 4
 ·exact C5 H h1 h2 h3 hu hj ha q hN1 hN2
 ·exact C4 H h1 h2 h3 hu hj ha q hN1 hN2
end X
namespace X
open Go Go.a9 Go.Sym
theorem pz {x : V} {n : Nat} (h : x.len = n) : vz x.len 6 = ((min n 6 : Nat) : Int) := by
 rw [h]; unfold vz; split <;> omega
theorem z8 {S o : V} {rr os : List (List Int)} {i : Nat} {r : List Int} (ho : cT o os) (hz : Zs (S.get (i : Int)) r) (h6 : ∀ r ∈ os, r.length <= 6) : cT (o.snoc ((S.get (i : Int)).sub 0 (vz ((S.get (i : Int)).len) 6))) (os ++ [r.take (min r.length 6)]) /\ ∀ x ∈ os ++ [r.take (min r.length 6)], x.length <= 6 := by
 have hz2 := hz.sub ((min r.length 6 : Nat) : Int)
 rw [Int.toNat_natCast] at hz2
 rw [pz hz.len]
 refine ⟨ho.snoc hz2, ?_⟩
 intro x hx
 rcases List.mem_append.1 hx with q | q
 ·exact h6 x q
 ·simp only [List.mem_singleton] at q; subst q; rw [List.length_take]; omega
theorem yY {G : Int} {F S W : V} {f : List Int} {s w : List (List Int)} (h1 : Zs F f) (h2 : cT S s) (h3 : cT W w) : ∃ F' S' W' f' s' w', HMod G F' S' W' f' s' w' /\ Fn prog iS.f [hm G F S W] (hm G F' S' W') := by
 have g0 : ((hm G F S W).get 0).ab = G := rfl
 have g1 : (hm G F S W).get 1 = F := rfl
 have g2 : (hm G F S W).get 2 = S := rfl
 have g3 : (hm G F S W).get 3 = W := rfl
 have lF := h1.len
 have lS := h2.cX
 have lW := h3.cX
 have hF := h1.sub ((min f.length 6 : Nat) : Int)
 have hS := h2.sub 0 ((min s.length 6 : Nat) : Int)
 have hW := h3.sub 0 ((min w.length 6 : Nat) : Int)
 simp only [Int.toNat_natCast, Int.toNat_zero, List.drop_zero] at hF hS hW
 have sl := hS.cX
 have wl := hW.cX
 rw [List.length_take, show min (min s.length 6) s.length = min s.length 6 by omega] at sl
 rw [List.length_take, show min (min w.length 6) w.length = min w.length 6 by omega] at wl
 generalize hS0 : S.sub 0 ((min s.length 6 : Nat) : Int) = S0 at *
 generalize hW0 : W.sub 0 ((min w.length 6 : Nat) : Int) = W0 at *
 have srl : (s.take (min s.length 6)).length = min s.length 6 := by rw [List.length_take]; omega
 have wrl : (w.take (min w.length 6)).length = min w.length 6 := by rw [List.length_take]; omega
 generalize s.take (min s.length 6) = rs at *
 generalize w.take (min w.length 6) = rw_ at *
 have fin : ∀ {A B : V} {a b : List (List Int)}, cT A a -> cT B b -> a.length <= 6 -> b.length <= 6 -> (∀ r ∈ a, r.length <= 6) -> (∀ r ∈ b, r.length <= 6) -> HMod G (F.sub 0 ((min f.length 6 : Nat) : Int)) A B (f.take (min f.length 6)) a b :=
  fun a b c d e f' => ⟨hF, a, b, by rw [List.length_take]; omega, c, d, e, f'⟩
 have loop2 : ∀ (A : V) (a : List (List Int)), cT A a -> a.length <= 6 -> (∀ r ∈ a, r.length <= 6) -> ∀ (t i : Nat) (i' : Int) (o : V) (os : List (List Int)), t + i = rw_.length -> i' = i -> cT o os -> os.length = i -> (∀ r ∈ os, r.length <= 6) -> ∃ q, (∃ A B a b, HMod G (F.sub 0 ((min f.length 6 : Nat) : Int)) A B (f.take (min f.length 6)) a b /\ q = hm G (F.sub 0 ((min f.length 6 : Nat) : Int)) A B) /\ Comes iS.K iS.f iS.s2 ⟨[i'], [], [hm G F S W, A, o]⟩ q := by
  intro A a hA ha1 ha2 t
  induction t with
  | zero =>
   intro i i' o os ht hi ho hl h6
   subst hi
   refine ⟨_, ⟨_, _, _, _, fin hA ho ha1 (by omega) ha2 h6, rfl⟩, Comes.last aa iS.p4 [] ?_ ?_⟩
   ·simp only [HM, FT, IB, ag, E.b, E.i, E.v, Env.ext, aO]; rw [g3, pz lW, hW0, wl]; omega
   ·simp only [HM, FT, IB, ag, E.b, E.i, E.v, Env.ext, aO]; rw [g0, g1, pz lF]; rfl
  | succ t ih =>
   intro i i' o os ht hi ho hl h6
   subst hi
   obtain ⟨r, hr⟩ : ∃ r, rw_[i]? = some r := ⟨_, List.getElem?_eq_getElem (by omega)⟩
   have hz := hW.row i r hr
   have hzl := hz.len
   have hol := ho.cX
   obtain ⟨k1, k2⟩ := z8 (rr := rw_) ho hz h6
   obtain ⟨q, q1, q2⟩ := ih (i + 1) ((i : Int) + 1) _ _ (by omega) (by omega) k1 (by simp [hl]) k2
   refine ⟨q, q1, Comes.step aa iS.p3 [] ?_ ?_⟩
   ·simp only [HM, FT, IB, ag, E.b, E.i, E.v, Env.ext, aO]; rw [g3, pz lW, hW0, wl, pz hzl, hzl, hol]; omega
   ·simp only [Sub.ev, E.v, E.i, Env.ext, aO]
    rw [g3, pz lW, hW0]
    exact q2
 have loop1 : ∀ (t i : Nat) (i' : Int) (o : V) (os : List (List Int)), t + i = rs.length -> i' = i -> cT o os -> os.length = i -> (∀ r ∈ os, r.length <= 6) -> ∃ q, (∃ A B a b, HMod G (F.sub 0 ((min f.length 6 : Nat) : Int)) A B (f.take (min f.length 6)) a b /\ q = hm G (F.sub 0 ((min f.length 6 : Nat) : Int)) A B) /\ Comes iS.K iS.f iS.s1 ⟨[i'], [], [hm G F S W, o]⟩ q := by
  intro t
  induction t with
  | zero =>
   intro i i' o os ht hi ho hl h6
   subst hi
   obtain ⟨q, q1, q2⟩ := loop2 o os ho (by omega) h6 rw_.length 0 0 .nil [] (by omega) rfl jh rfl (by simp)
   refine ⟨q, q1, Comes.step aa iS.p2 [] ?_ q2⟩
   simp only [HM, FT, IB, ag, E.b, E.i, E.v, Env.ext, aO]; rw [g2, g3, pz lS, pz lW, hS0, sl, lW]; omega
  | succ t ih =>
   intro i i' o os ht hi ho hl h6
   subst hi
   obtain ⟨r, hr⟩ : ∃ r, rs[i]? = some r := ⟨_, List.getElem?_eq_getElem (by omega)⟩
   have hz := hS.row i r hr
   have hzl := hz.len
   have hol := ho.cX
   obtain ⟨k1, k2⟩ := z8 (rr := rs) ho hz h6
   obtain ⟨q, q1, q2⟩ := ih (i + 1) ((i : Int) + 1) _ _ (by omega) (by omega) k1 (by simp [hl]) k2
   refine ⟨q, q1, Comes.step aa iS.p1 [] ?_ ?_⟩
   ·simp only [HM, FT, IB, ag, E.b, E.i, E.v, Env.ext, aO]; rw [g2, pz lS, hS0, sl, pz hzl, hzl, hol]; omega
   ·simp only [Sub.ev, E.v, E.i, Env.ext, aO]
    rw [g2, pz lS, hS0]
    exact q2
 obtain ⟨q, ⟨A, B, a, b, M, rfl⟩, q2⟩ := loop1 rs.length 0 0 .nil [] (by omega) rfl jh rfl (by simp)
 refine ⟨_, A, B, _, a, b, M, Fn.of (C := iS.K) iS.b (Comes.step aa iS.p0 [] ?_ q2)⟩
 simp only [HM, FT, IB, ag, E.b, E.i, E.v, Env.ext, aO]; rw [g1, g2, pz lF, pz lS, lF, lS]; omega
structure Bd (B : V) (u j a : Nat) (N : Int) : Prop where
 eq : B = .list [.int u, .int j, .int a, .int N]
 u : u <= 255
 j : j <= 255
 a : a <= 255
 n1 : -9223372036854775808 <= N
 n2 : N <= 9223372036854775807
theorem xM {D : V} {g n k : Nat} {l e : List Nat} {L S : V} (X : Dr D g n k l e L S) {B : V} {u j a : Nat} {N : Int} (Y : Bd B u j a N) {G : Int} {F S3 W : V} {f : List Int} {s w : List (List Int)} (h1 : Zs F f) (h2 : cT S3 s) (h3 : cT W w) :
  ∃ x0 x1 x2, (∀ x ∈ [x0, x1, x2], ∃ G F S W f s w, HMod G F S W f s w /\ x = hm G F S W) /\ Fn prog s9.f [D, B, hm G F S3 W] (.list [x0, x1, x2]) := by
 obtain ⟨F0, S0, W0, f0, s0, w0, H, z1, z2, z3, c0⟩ := qb X
 obtain ⟨G1, F1, S1, W1, f1, s1, w1, M1, c1⟩ := tR H z1 z2 z3 Y.u Y.j Y.a Y.n1 Y.n2
 obtain ⟨F2, S2, W2, f2, s2, w2, M2, c2⟩ := yY (G := G) h1 h2 h3
 refine ⟨hm ((1 + g % 12 : Nat) : Int) F0 S0 W0, hm G1 F1 S1 W1, hm G F2 S2 W2, ?_, Fn.of (C := s9.K) s9.b (Comes.last aa s9.p0 [hm ((1 + g % 12 : Nat) : Int) F0 S0 W0, hm G1 F1 S1 W1, hm G F2 S2 W2] ?_ ?_)⟩
 rotate_left
 ·have hD := X.eq
  have hB := Y.eq
  subst hD; subst hB
  exact ⟨c0, c1, c2, trivial⟩
 ·rfl
 ·intro x hx
  simp only [List.mem_cons, List.not_mem_nil, or_false] at hx
  rcases hx with rfl | rfl | rfl
  ·exact ⟨_, _, _, _, _, _, _, H.mod z1 z2 z3, rfl⟩
  ·exact ⟨_, _, _, _, _, _, _, M1, rfl⟩
  ·exact ⟨_, _, _, _, _, _, _, M2, rfl⟩
end X
namespace X
open Go Go.a9 Go.Sym
theorem drop_cons' {α : Type} {l : List α} {i : Nat} {r : α} (hr : l[i]? = some r) : l.drop i = r :: l.drop (i + 1) := by
 have hlt := (List.getElem?_eq_some_iff.1 hr).1
 rw [List.drop_eq_getElem_cons hlt]
 rw [List.getElem?_eq_getElem hlt] at hr
 cases hr; rfl
theorem wQ {G : Int} {F S W : V} {f : List Int} {s w : List (List Int)} (M : HMod G F S W f s w) : Fn prog de.f [hm G F S W] (.bool (mS G f s w)) := by
 have m0 : ((hm G F S W).get 0).ab = G := rfl
 have m1 : (hm G F S W).get 1 = F := rfl
 have m2 : (hm G F S W).get 2 = S := rfl
 have m3 : (hm G F S W).get 3 = W := rfl
 have lf := M.first.len
 have ls := M.step.cX
 have lw := M.Bk.cX
 have h1 := M.f6
 have h2 := M.s6
 have h3 := M.w6
 refine Fn.of (C := de.K) de.b ?_
 by_cases c : 1 <= G /\ G <= 12 /\ 1 <= f.length /\ f.length <= 4
 rotate_left
 ·have e : mS G f s w = false := by
   unfold mS
   rw [decide_eq_false (fun q => c ⟨q.1, q.2.1, q.2.2.1, q.2.2.2.1⟩), Bool.false_and]
  rw [e]
  by_cases a0 : G < 1
  ·refine Comes.last aa de.p0 [] ?_ rfl
   simp only [HM, FT, IB, ag, E.b, E.i, E.v, Env.ext, aO]; rw [m0]; omega
  by_cases a1 : 12 < G
  ·refine Comes.last aa de.p1 [] ?_ rfl
   simp only [HM, FT, IB, ag, E.b, E.i, E.v, Env.ext, aO]; rw [m0]; omega
  by_cases a2 : f.length < 1
  ·refine Comes.last aa de.p2 [] ?_ rfl
   simp only [HM, FT, IB, ag, E.b, E.i, E.v, Env.ext, aO]; rw [m0, m1, lf]; omega
  ·refine Comes.last aa de.p3 [] ?_ rfl
   simp only [HM, FT, IB, ag, E.b, E.i, E.v, Env.ext, aO]; rw [m0, m1, lf]; omega
 obtain ⟨c1, c2, c3, c4⟩ := c
 have f1 := pg M.first (by omega) (G := G) f.length (by omega) c2
 cases hb1 : er G f.length f with
 | false =>
  rw [hb1] at f1
  have e : mS G f s w = false := by unfold mS; rw [hb1]; simp
  rw [e]
  refine Comes.last aa de.p4 [.bool false] ?_ rfl
  simp only [HM, FT, IB, ag, E.b, E.i, E.v, Env.ext, aO]; rw [m0, m1, lf]
  exact ⟨by omega, by omega, by omega, by omega, f1⟩
 | true =>
  rw [hb1] at f1
  by_cases c5 : s.length = f.length
  rotate_left
  ·have e : mS G f s w = false := by
    unfold mS
    rw [show decide ((s.length : Int) = f.length) = false from decide_eq_false (by omega)]; simp
   rw [e]
   refine Comes.last aa de.p5 [.bool true] ?_ rfl
   simp only [HM, FT, IB, ag, E.b, E.i, E.v, Env.ext, aO]; rw [m0, m1, m2, lf, ls]
   exact ⟨by omega, by omega, by omega, by omega, f1, by omega⟩
  by_cases c6 : w.length = f.length
  rotate_left
  ·have e : mS G f s w = false := by
    unfold mS
    rw [show decide ((w.length : Int) = f.length) = false from decide_eq_false (by omega)]; simp
   rw [e]
   refine Comes.last aa de.p6 [.bool true] ?_ rfl
   simp only [HM, FT, IB, ag, E.b, E.i, E.v, Env.ext, aO]; rw [m0, m1, m2, m3, lf, ls, lw]
   exact ⟨by omega, by omega, by omega, by omega, f1, by omega, by omega⟩
  have hw0 := vK M.Bk (by omega)
  by_cases k1 : 1 <= kQ w
  rotate_left
  ·have e : mS G f s w = false := by
    unfold mS
    rw [decide_eq_false (fun q => k1 q.2.2.2.2.2.1), Bool.false_and]
   rw [e]
   refine Comes.last aa de.p7 [.bool true] ?_ rfl
   simp only [HM, FT, IB, ag, E.b, E.i, E.v, Env.ext, aO]; rw [m0, m1, m2, m3, lf, ls, lw, hw0]
   exact ⟨by omega, by omega, by omega, by omega, f1, by omega, by omega, by omega, by omega⟩
  by_cases k2 : kQ w <= 4
  rotate_left
  ·have e : mS G f s w = false := by
    unfold mS
    rw [decide_eq_false (fun q => k2 q.2.2.2.2.2.2), Bool.false_and]
   rw [e]
   refine Comes.last aa de.p8 [.bool true] ?_ rfl
   simp only [HM, FT, IB, ag, E.b, E.i, E.v, Env.ext, aO]; rw [m0, m1, m2, m3, lf, ls, lw, hw0]
   exact ⟨by omega, by omega, by omega, by omega, f1, by omega, by omega, by omega, by omega, by omega⟩
  have e : mS G f s w = ((s.drop 0).all (er G f.length) && (w.drop 0).all (er G (kQ w))) := by
   unfold mS nX
   rw [decide_eq_true ⟨c1, c2, c3, c4, c6, k1, k2⟩, hb1, show decide ((s.length : Int) = f.length) = true from decide_eq_true (by omega), show decide ((w.length : Int) = f.length) = true from decide_eq_true (by omega)]
   simp
  rw [e]
  have loop : ∀ (t i : Nat) (i' : Int), t + i = f.length -> i' = i -> Comes de.K de.f de.s1 ⟨[i'], [], [hm G F S W, .bool true]⟩ (.bool ((s.drop i).all (er G f.length) && (w.drop i).all (er G (kQ w)))) := by
   intro t
   induction t with
   | zero =>
    intro i i' ht hi
    subst hi
    rw [List.drop_eq_nil_of_le (by omega), List.drop_eq_nil_of_le (by omega)]
    refine Comes.last aa de.ER [] ?_ rfl
    simp only [HM, FT, IB, ag, E.b, E.i, E.v, Env.ext, aO]; rw [m1, lf]; omega
   | succ t ih =>
    intro i i' ht hi
    subst hi
    obtain ⟨r, hr⟩ : ∃ e', s[i]? = some e' := ⟨_, List.getElem?_eq_getElem (by omega)⟩
    obtain ⟨q, hq⟩ : ∃ e', w[i]? = some e' := ⟨_, List.getElem?_eq_getElem (by omega)⟩
    have f2 := pg (M.step.row i r hr) (by have := M.sr r (List.mem_of_getElem? hr); omega) (G := G) f.length (by omega) c2
    have f3 := pg (M.Bk.row i q hq) (by have := M.wr q (List.mem_of_getElem? hq); omega) (G := G) (kQ w) (by omega) c2
    rw [drop_cons' hr, drop_cons' hq]
    simp only [List.all_cons]
    cases h2 : er G f.length r with
    | false =>
     rw [h2] at f2
     refine Comes.last aa de.CI [.bool false] ?_ (by simp [E.v, E.b])
     simp only [HM, FT, IB, ag, E.b, E.i, E.v, Env.ext, aO]; rw [m0, m1, m2, lf, ls]
     exact ⟨by omega, by omega, f2⟩
    | true =>
     rw [h2] at f2
     cases h3 : er G (kQ w) q with
     | false =>
      rw [h3] at f3
      refine Comes.last aa de.D1 [.bool true, .bool false] ?_ (by simp [E.v, E.b])
      simp only [HM, FT, IB, ag, E.b, E.i, E.v, Env.ext, aO]; rw [m0, m1, m2, m3, lf, ls, lw, hw0]
      exact ⟨by omega, by omega, f2, by omega, f3⟩
     | true =>
      rw [h3] at f3
      simp only [Bool.true_and]
      refine Comes.step aa de.EB [.bool true, .bool true] ?_ (ih (i + 1) ((i : Int) + 1) (by omega) (by omega))
      simp only [HM, FT, IB, ag, E.b, E.i, E.v, Env.ext, aO]; rw [m0, m1, m2, m3, lf, ls, lw, hw0]
      exact ⟨by omega, by omega, f2, by omega, f3, by omega⟩
  refine Comes.step aa de.p9 [.bool true] ?_ (loop f.length 0 0 (by omega) rfl)
  simp only [HM, FT, IB, ag, E.b, E.i, E.v, Env.ext, aO]; rw [m0, m1, m2, m3, lf, ls, lw, hw0]
  exact ⟨by omega, by omega, by omega, by omega, f1, by omega, by omega, by omega, by omega, by omega⟩
end X
namespace X
open Go Go.a9 Go.Sym
def Ed (f : List Int) (w : List (List Int)) (j : Nat) : Int := if j % 2 = 0 then f.length else kQ w
def EA (j : Nat) : List Int := if j % 2 = 0 then (if j = 0 then [] else [(j : Int) - 2]) else [(j : Int) - 1]
def Ex (f : List Int) (s w : List (List Int)) (j : Nat) : List (List Int) := if j % 2 = 0 then (if j = 0 then [f] else s) else w
structure Ei (f : List Int) (s w : List (List Int)) (j : Nat) (x : V) : Prop where
 EU : (x.get 0).ab = Ed f w j
 par : Zs (x.get 1) (EA j)
 row : cT (x.get 2) (Ex f s w j)
structure Ej (f : List Int) (s w : List (List Int)) (i : Nat) (x : V) : Prop where
 len : x.bx.length = 2 * i
 at_ : ∀ j y, x.bx[j]? = some y -> Ei f s w j y
theorem Es {F : V} {f : List Int} (h : Zs F f) : cT (.list [F]) [f] := ij.2 ⟨h, trivial⟩
theorem Ej.cX {f : List Int} {s w : List (List Int)} {i : Nat} {x : V} (h : Ej f s w i x) : x.len = 2 * (i : Int) := by simp [V.len, h.len]
def ET (e : Int) : V := .list [.list [.int 0, .nil], .int e]
def ES (G : Int) (x : V) : V := .list [.list [.int G, x], .int 0]
end X
namespace Go.Sym
open Go Go.a9
theorem WT.struct {P : Program} {d : Nat} {t : TypeId} {x : V} {fields : Array Field} (hu : P.underlying t = some (.struct fields)) (h : WT P (d + 1) t x) : ∃ xs, x = .list xs /\ xs.length = fields.toList.length /\ ∀ (i : Nat) f y, fields.toList[i]? = some f -> xs[i]? = some y -> WT P d f.type y := by
 unfold WT at h; rw [hu] at h; exact h
theorem WT.tJ {P : Program} {d : Nat} {t : TypeId} {x : V} {k : IntKind} (hu : P.underlying t = some (.int k)) (h : WT P (d + 1) t x) : ∃ n, x = .int n /\ k.min <= n /\ n <= k.max := by
 unfold WT at h; rw [hu] at h; exact h
theorem WT.slice {P : Program} {d : Nat} {t et : TypeId} {x : V} (hu : P.underlying t = some (.slice et)) (h : WT P (d + 1) t x) : x = .nil \/ ∃ l, x = .list l /\ l.length <= Go.maxLen /\ ∀ y ∈ l, WT P d et y := by
 unfold WT at h; rw [hu] at h; exact h
end Go.Sym
namespace Go.Proofs.YtildjgdhdcoojaaDoor.Eh
open Go.Sym (WT Dl V a8)
open X (Zs cT fM hm Dr Bd)
set_option maxRecDepth 100000 in
theorem zX {d : Nat} {x : V} (h : WT Tryd.prog (d + 2) 22 x) : ∃ l : List Nat, a8 x l /\ (∀ y ∈ l, y <= 255) /\ l.length <= Go.maxLen := by
 rcases WT.slice Tryd.underlying22 h with rfl | ⟨l, rfl, hl, hy⟩
 ·exact ⟨[], rfl, by simp, by simp⟩
 ·clear h
  induction l with
  | nil => exact ⟨[], rfl, by simp, by simp⟩
  | cons a l ih =>
   obtain ⟨k, k1, k2, k3⟩ := ih (by simp at hl; omega) (fun y hm => hy y (by simp [hm]))
   obtain ⟨n, rfl, h1, h2⟩ := WT.tJ Tryd.underlying5 (hy a (by simp))
   have h1' : (0 : Int) <= n := h1
   have h2' : n <= 255 := h2
   obtain ⟨m, rfl⟩ : ∃ m : Nat, n = m := ⟨n.toNat, by omega⟩
   refine ⟨m :: k, ?_, ?_, ?_⟩
   ·unfold a8 at *
    simp only [V.bx, List.map_cons] at *
    rw [k1]; rfl
   ·intro y hy'
    rcases List.mem_cons.1 hy' with rfl | q
    ·omega
    ·exact k2 y q
   ·have : l.length = k.length := by
     unfold a8 at k1
     simp only [V.bx] at k1
     rw [k1]; simp
    simp only [List.length_cons] at *
    omega
set_option maxRecDepth 100000 in
theorem A8 {d : Nat} {x : V} (h : WT Tryd.prog (d + 2) 27 x) : ∃ l : List Int, Zs x l := by
 rcases WT.slice Tryd.underlying27 h with rfl | ⟨l, rfl, hl, hy⟩
 ·exact ⟨[], rfl⟩
 ·clear h
  induction l with
  | nil => exact ⟨[], rfl⟩
  | cons a l ih =>
   obtain ⟨k, k1⟩ := ih (by simp at hl; omega) (fun y hm => hy y (by simp [hm]))
   obtain ⟨n, rfl, h1, h2⟩ := WT.tJ Tryd.underlying3 (hy a (by simp))
   refine ⟨n :: k, ?_⟩
   unfold Zs at *
   simp only [V.bx, List.map_cons] at *
   rw [k1]
set_option maxRecDepth 100000 in
theorem Ba {d : Nat} {x : V} (h : WT Tryd.prog (d + 3) 28 x) : ∃ rows, cT x rows := by
 rcases WT.slice Tryd.underlying28 h with rfl | ⟨l, rfl, hl, hy⟩
 ·exact ⟨[], X.jh⟩
 ·clear h
  suffices hh : ∃ rows, fM l rows by
   obtain ⟨rows, hr⟩ := hh
   exact ⟨rows, X.ij.2 hr⟩
  induction l with
  | nil => exact ⟨[], trivial⟩
  | cons a l ih =>
   obtain ⟨rows, k1⟩ := ih (by simp at hl; omega) (fun y hm => hy y (by simp [hm]))
   obtain ⟨r, hr⟩ := A8 (hy a (by simp))
   exact ⟨r :: rows, hr, k1⟩
set_option maxRecDepth 100000 in
theorem B0 {d : Nat} {x : V} (h : WT Tryd.prog (d + 4) 24 x) : ∃ (g n k : Nat) (l e : List Nat) (L S : V), Dr x g n k l e L S := by
 obtain ⟨xs, rfl, l0, f0⟩ := WT.struct Tryd.underlying24 h
 match xs, l0 with
 | [a, b, c, L, S], _ =>
 obtain ⟨a, rfl, a1, a2⟩ := WT.tJ Tryd.underlying5 (f0 0 _ _ rfl rfl)
 obtain ⟨b, rfl, b1, b2⟩ := WT.tJ Tryd.underlying5 (f0 1 _ _ rfl rfl)
 obtain ⟨c, rfl, c1, c2⟩ := WT.tJ Tryd.underlying5 (f0 2 _ _ rfl rfl)
 obtain ⟨l, i1, i2, i3⟩ := zX (f0 3 _ _ rfl rfl)
 obtain ⟨e, j1, j2, j3⟩ := zX (f0 4 _ _ rfl rfl)
 have a1 : (0 : Int) <= a := a1
 have a2 : a <= 255 := a2
 have b1 : (0 : Int) <= b := b1
 have b2 : b <= 255 := b2
 have c1 : (0 : Int) <= c := c1
 have c2 : c <= 255 := c2
 obtain ⟨a, rfl⟩ : ∃ m : Nat, a = m := ⟨a.toNat, by omega⟩
 obtain ⟨b, rfl⟩ : ∃ m : Nat, b = m := ⟨b.toNat, by omega⟩
 obtain ⟨c, rfl⟩ : ∃ m : Nat, c = m := ⟨c.toNat, by omega⟩
 have hm : Go.maxLen <= 9223372036854775807 := by decide
 exact ⟨a, b, c, l, e, L, S, rfl, by omega, by omega, by omega, i1, j1, i2, j2, by omega, by omega⟩
set_option maxRecDepth 100000 in
theorem CV {d : Nat} {x : V} (h : WT Tryd.prog (d + 4) 26 x) : ∃ (u j a : Nat) (N : Int), Bd x u j a N := by
 obtain ⟨xs, rfl, l0, f0⟩ := WT.struct Tryd.underlying26 h
 match xs, l0 with
 | [a, b, c, N], _ =>
 obtain ⟨a, rfl, a1, a2⟩ := WT.tJ Tryd.underlying5 (f0 0 _ _ rfl rfl)
 obtain ⟨b, rfl, b1, b2⟩ := WT.tJ Tryd.underlying5 (f0 1 _ _ rfl rfl)
 obtain ⟨c, rfl, c1, c2⟩ := WT.tJ Tryd.underlying5 (f0 2 _ _ rfl rfl)
 obtain ⟨N, rfl, d1, d2⟩ := WT.tJ Tryd.underlying3 (f0 3 _ _ rfl rfl)
 have a1 : (0 : Int) <= a := a1
 have a2 : a <= 255 := a2
 have b1 : (0 : Int) <= b := b1
 have b2 : b <= 255 := b2
 have c1 : (0 : Int) <= c := c1
 have c2 : c <= 255 := c2
 obtain ⟨a, rfl⟩ : ∃ m : Nat, a = m := ⟨a.toNat, by omega⟩
 obtain ⟨b, rfl⟩ : ∃ m : Nat, b = m := ⟨b.toNat, by omega⟩
 obtain ⟨c, rfl⟩ : ∃ m : Nat, c = m := ⟨c.toNat, by omega⟩
 exact ⟨a, b, c, N, rfl, by omega, by omega, by omega, d1, d2⟩
set_option maxRecDepth 100000 in
theorem DE {d : Nat} {x : V} (h : WT Tryd.prog (d + 4) 30 x) : ∃ (G : Int) (F S W : V) (f : List Int) (s w : List (List Int)), x = hm G F S W /\ Zs F f /\ cT S s /\ cT W w := by
 obtain ⟨xs, rfl, l0, f0⟩ := WT.struct Tryd.underlying30 h
 match xs, l0 with
 | [a, b, c, e], _ =>
 obtain ⟨a, rfl, a1, a2⟩ := WT.tJ Tryd.underlying3 (f0 0 _ _ rfl rfl)
 obtain ⟨f, hf⟩ := A8 (f0 1 _ _ rfl rfl)
 obtain ⟨s, hs⟩ := Ba (f0 2 _ _ rfl rfl)
 obtain ⟨w, hw⟩ := Ba (f0 3 _ _ rfl rfl)
 exact ⟨a, b, c, e, f, s, w, rfl, hf, hs, hw⟩
end Go.Proofs.YtildjgdhdcoojaaDoor.Eh
