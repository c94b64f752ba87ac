/- Texts of the claim: GlobH, Hid10, Hid11, Hid12, Hid13, Hid14, Hid15, Hid16, HMeets, Hid17, Hid18, Hid19, Hid20, Hid21, Hid22, Hid23, Hid24, Hid25, HTabs, Hid26, HKnows, HPreds. -/
import Derived.Test.YtildjgdhdcoojaaDoorZ12
import Derived.Test.YtildjgdhdcoojaaDoorZ14
import Derived.Test.YtildjgdhdcoojaaDoorZ11
import Derived.Test.YtildjgdhdcoojaaDoorCards
import Derived.Test.YtildjgdhdcoojaaDoorTie
import Derived.ProofKit
import Derived.OpenShut
import Derived.ShutString
import Derived.ChangeOld
import Derived.Below
import Derived.LaidMore
import Derived.Stop.Joined
import Derived.Lib.LaidTab
set_option linter.unusedVariables false
set_option linter.unusedSimpArgs false
namespace Go.Proofs.YtildjgdhdcoojaaDoor.GlobH
open Go
theorem own : ownKnob Tryd.prog.godebug = none := by kernel_rfl
theorem laidOut : laidOutB Tryd.prog = true := by kernel_rfl
theorem gDir : Tryd.prog.globalNamed "haruspex/hidden.directions" = some 0 := by kernel_rfl
theorem tDir : (Tryd.prog.globals[0]?).map (·.type) = some 144 := by kernel_rfl
theorem cells143 : Tryd.prog.cellsOf 143 = 1 := by kernel_rfl
def laidH : List (String × DataW Unit) := [("haruspex/hidden.directions", Rows.laid_haruspex_hidden_directions)]
theorem door_met (os : Os) (args : Array Value) : laidMetH Tryd.prog laidH ((World.doorLaid Tryd.prog 600 os).forCall (fun _ _ => 0) ⟨#[], args, []⟩).memory :=
 laidMetH_of_parts3 (fuel := 8) (laidMet_of_run' 8 (by kernel_rfl) (by kernel_rfl)) (by kernel_rfl) (by kernel_rfl)
set_option maxRecDepth 100000 in
theorem of_laid {W : World} (h : laidMetH Tryd.prog laidH W) : W.cell? ⟨0, 0, none⟩ = some (.func (.func 65) #[] #[]) /\ W.cell? ⟨0, 1, none⟩ = some (.func (.func 140) #[] #[]) := by
 obtain ⟨g, t, cs, fuel, p, hg, ht, hv, hd⟩ := h.funcs (List.mem_singleton.2 rfl)
 obtain rfl := Option.some.inj (gDir.symm.trans hg)
 obtain rfl := Option.some.inj (tDir.symm.trans ht)
 have hd' : DataW.trod (funcToken Tryd.prog) Tryd.prog W 0 (fun _ => true) true fuel 144 cs.toList = some (.agg [.held [40, 104, 97, 114, 117, 115, 112, 101, 120, 47, 104, 105, 100, 100, 101, 110, 46, 119, 97, 116, 99, 104, 101, 114, 41, 46, 117, 112], .held [40, 104, 97, 114, 117, 115, 112, 101, 120, 47, 104, 105, 100, 100, 101, 110, 46, 119, 97, 116, 99, 104, 101, 114, 41, 46, 100, 111, 119, 110]], p) := hd
 clear hd
 cases fuel with
 | zero => simp [DataW.trod] at hd'
 | succ fuel =>
  simp only [DataW.trod, Tryd.underlying144, cells143, Nat.mul_one] at hd'
  split at hd'
  ·rename_i hl
   obtain ⟨xs, hm, hx⟩ := Option.map_eq_some_iff.1 hd'
   have hxs : xs.map (·.1) = [.held [40, 104, 97, 114, 117, 115, 112, 101, 120, 47, 104, 105, 100, 100, 101, 110, 46, 119, 97, 116, 99, 104, 101, 114, 41, 46, 117, 112], .held [40, 104, 97, 114, 117, 115, 112, 101, 120, 47, 104, 105, 100, 100, 101, 110, 46, 119, 97, 116, 99, 104, 101, 114, 41, 46, 100, 111, 119, 110]] := by
    have := congrArg Prod.fst hx
    injection this
   have hcl : cs.toList.length = 2 := by first | exact hl | (exact of_decide_eq_true hl) | simpa using hl
   obtain ⟨a, b, hab⟩ : ∃ a b, cs.toList = [a, b] := by
    match cs.toList, hcl with
    | [a, b], _ => exact ⟨a, b, rfl⟩
   rw [hab] at hm
   obtain ⟨y0, h0, r0⟩ := Lib.mapM_at hm 0 0 (by simp)
   obtain ⟨y1, h1, r1⟩ := Lib.mapM_at hm 1 1 (by simp)
   have e0 : (xs.map (·.1))[0]? = some y0.1 := by simp [h0]
   have e1 : (xs.map (·.1))[1]? = some y1.1 := by simp [h1]
   rw [hxs] at e0 e1
   simp only [List.getElem?_cons_zero, List.getElem?_cons_succ, Option.some.injEq] at e0 e1
   obtain ⟨y0a, y0b⟩ := y0
   obtain ⟨y1a, y1b⟩ := y1
   simp only at e0 e1
   subst e0; subst e1
   simp only [List.drop_zero, List.take_succ_cons, List.take_zero, List.drop_succ_cons] at r0 r1
   obtain rfl := func_of_trod (f0 := 65) Tryd.underlying143 (by kernel_rfl) r0
   obtain rfl := func_of_trod (f0 := 140) Tryd.underlying143 (by kernel_rfl) r1
   have c0 := World.var?_cell hg hv 0
   have c1 := World.var?_cell hg hv 1
   have hcs : cs = #[Value.func (.func 65) #[] #[], Value.func (.func 140) #[] #[]] := by
    apply Array.ext'
    exact hab
   rw [hcs] at c0 c1
   exact ⟨by simpa using c0, by simpa using c1⟩
  ·cases hd'
theorem glob {W : World} (h : laidMetH Tryd.prog laidH W) : Go.Abs.GlobI (Go.Sym.memOf W) := by
 obtain ⟨h0, h1⟩ := of_laid h
 refine ⟨fun μ g => ?_⟩
 by_cases hg : g = 0
 ·subst hg
  exact .vptr (.cons (u := .func (.func 65) #[] #[]) h0 (.func .nil .nil) (.cons (u := .func (.func 140) #[] #[]) h1 (.func .nil .nil) .nil))
 ·have : Go.Abs.gv g = .bad := by
   unfold Go.Abs.gv Go.Abs.gtab
   have e : (g == 0) = false := by simp [hg]
   simp only [List.lookup, e]
  rw [this]; exact .bad _
end Go.Proofs.YtildjgdhdcoojaaDoor.GlobH
namespace X
def sumR (n : Nat) (g : Nat -> Int) : Int := ((List.range n).map g).sum
theorem sumR_zero (g : Nat -> Int) : sumR 0 g = 0 := rfl
theorem sumR_succ (n : Nat) (g : Nat -> Int) : sumR (n + 1) g = sumR n g + g n := by
 unfold sumR; rw [List.range_succ, List.map_append, List.sum_append]; simp
theorem sumR_congr {n : Nat} {g h : Nat -> Int} (e : ∀ i, i < n -> g i = h i) : sumR n g = sumR n h := by
 unfold sumR; congr 1
 apply List.map_congr_left
 intro i hi; exact e i (List.mem_range.1 hi)
theorem sumR_nonneg {n : Nat} {g : Nat -> Int} (h : ∀ i, i < n -> 0 <= g i) : 0 <= sumR n g := by
 induction n with
 | zero => simp [sumR_zero]
 | succ n ih => rw [sumR_succ]; have := ih fun i hi => h i (by omega); have := h n (by omega); omega
theorem sumR_le {n : Nat} {g h : Nat -> Int} (e : ∀ i, i < n -> g i <= h i) : sumR n g <= sumR n h := by
 induction n with
 | zero => simp [sumR_zero]
 | succ n ih => rw [sumR_succ, sumR_succ]; have := ih fun i hi => e i (by omega); have := e n (by omega); omega
theorem sumR_mono {n m : Nat} {g : Nat -> Int} (hm : m <= n) (h : ∀ i, i < n -> 0 <= g i) : sumR m g <= sumR n g := by
 induction n with
 | zero =>
  have : m = 0 := by omega
  subst this; omega
 | succ n ih =>
  by_cases q : m = n + 1
  ·subst q; omega
  ·rw [sumR_succ]; have := ih (by omega) fun i hi => h i (by omega); have := h n (by omega); omega
theorem sumR_one {n i : Nat} {g : Nat -> Int} (hi : i < n) (h : ∀ i, i < n -> 0 <= g i) : g i <= sumR n g := by
 have h1 := sumR_mono (m := i + 1) (by omega : i + 1 <= n) h
 rw [sumR_succ] at h1
 have := sumR_nonneg (n := i) (g := g) fun j hj => h j (by omega)
 omega
theorem sumR_mul (n : Nat) (g : Nat -> Int) (c : Int) : sumR n (fun i => g i * c) = sumR n g * c := by
 induction n with
 | zero => simp [sumR_zero]
 | succ n ih => rw [sumR_succ, sumR_succ, ih, Int.add_mul]
theorem sumR_mul' (n : Nat) (g : Nat -> Int) (c : Int) : sumR n (fun i => c * g i) = c * sumR n g := by
 induction n with
 | zero => simp [sumR_zero]
 | succ n ih => rw [sumR_succ, sumR_succ, ih, Int.mul_add]
theorem sumR_add (n : Nat) (g h : Nat -> Int) : sumR n (fun i => g i + h i) = sumR n g + sumR n h := by
 induction n with
 | zero => simp [sumR_zero]
 | succ n ih => rw [sumR_succ, sumR_succ, sumR_succ, ih]; omega
theorem sumR_swap (n m : Nat) (g : Nat -> Nat -> Int) : sumR n (fun i => sumR m (fun j => g i j)) = sumR m (fun j => sumR n (fun i => g i j)) := by
 induction n with
 | zero =>
  induction m with
  | zero => rfl
  | succ m ih => rw [sumR_succ, <- ih]; simp [sumR_zero]
 | succ n ih => rw [sumR_succ, ih, <- sumR_add]; apply sumR_congr; intro i _; rw [sumR_succ]
theorem sumR_list : ∀ (l : List Int), sumR l.length (fun i => l.getD i 0) = l.sum := by
 intro l
 unfold sumR
 congr 1
 apply List.ext_getElem?
 intro i
 rw [List.getElem?_map]
 by_cases h : i < l.length
 ·rw [List.getElem?_range h, List.getElem?_eq_getElem h]; simp [h]
 ·rw [List.getElem?_eq_none (by simp; omega), List.getElem?_eq_none (by omega)]; rfl
section
variable (G : Int) (f : List Int) (s w : List (List Int)) (o : List Int) (n : Nat)
def si (u v : Nat) : Int := (s.getD u []).getD v 0
def sh (t v : Nat) : Int := if o.getD t 0 < 0 then G else (w.getD v []).getD (o.getD t 0).toNat 0
def FW : Nat -> Nat -> Int
 | 0, v => f.getD v 0 * sh G w o 0 v
 | t + 1, v => sumR n (fun u => FW t u * si s u v) * sh G w o (t + 1) v
def BW : Nat -> Nat -> Int
 | 0, _ => 1
 | k + 1, v => sumR n (fun u => si s v u * sh G w o (o.length - 1 - k) u * BW k u)
def rowR (g : Nat -> Int) : List Int := (List.range n).map g
end
structure SOk (o : List Int) (k : Nat) : Prop where
 l1 : 1 <= o.length
 l8 : o.length <= 8
 x : ∀ x ∈ o, -1 <= x /\ x < (k : Int)
section
variable {G : Int} {f : List Int} {s w : List (List Int)} {o : List Int} {n k : Nat}
theorem rowB_at {G : Int} {m : Nat} {r : List Int} (h : rowB G m r = true) (v : Nat) : 0 <= r.getD v 0 /\ r.getD v 0 <= G := by
 obtain ⟨h1, h2, h3⟩ := rowB_true.1 h
 have h0 : 0 <= G := by
  rw [<- h3]
  clear h h1 h3
  induction r with
  | nil => simp
  | cons a l ih =>
   have := ih fun x hx => h2 x (by simp [hx])
   have := h2 a (by simp)
   simp; omega
 by_cases hv : v < r.length
 ·have := h2 r[v] (List.getElem_mem hv)
  simp [hv]; omega
 ·simp [hv]; omega
theorem HOk.si (H : HOk G f s w n k) {u : Nat} (hu : u < n) (v : Nat) : 0 <= X.si s u v /\ X.si s u v <= G := by
 have hl : u < s.length := by rw [H.sl]; exact hu
 have : s.getD u [] = s[u] := by simp [hl]
 unfold X.si; rw [this]
 exact rowB_at (H.sr _ (List.getElem_mem hl)) v
theorem HOk.si_sum (H : HOk G f s w n k) {u : Nat} (hu : u < n) : sumR n (fun v => X.si s u v) = G := by
 have hl : u < s.length := by rw [H.sl]; exact hu
 have e : s.getD u [] = s[u] := by simp [hl]
 obtain ⟨h1, h2, h3⟩ := rowB_true.1 (H.sr _ (List.getElem_mem hl))
 unfold X.si; rw [e]
 have := sumR_list s[u]
 rw [show s[u].length = n by omega] at this
 rw [this, h3]
theorem HOk.sh (H : HOk G f s w n k) (t : Nat) {v : Nat} (hv : v < n) : 0 <= X.sh G w o t v /\ X.sh G w o t v <= G := by
 have := H.g1
 unfold X.sh
 split
 ·omega
 ·have hl : v < w.length := by rw [H.wl]; exact hv
  have e : w.getD v [] = w[v] := by simp [hl]
  rw [e]
  exact rowB_at (H.wr _ (List.getElem_mem hl)) _
theorem HOk.fi (H : HOk G f s w n k) (v : Nat) : 0 <= f.getD v 0 /\ f.getD v 0 <= G := rowB_at H.fr v
theorem HOk.fi_sum (H : HOk G f s w n k) : sumR n (fun v => f.getD v 0) = G := by
 have := sumR_list f
 rw [H.fl] at this
 rw [this]; exact (rowB_true.1 H.fr).2.2
theorem HOk.fw_nonneg (H : HOk G f s w n k) : ∀ t v, v < n -> 0 <= FW G f s w o n t v
 | 0, v, hv => Int.mul_nonneg (H.fi v).1 (H.sh 0 hv).1
 | t + 1, v, hv => Int.mul_nonneg (sumR_nonneg fun u hu => Int.mul_nonneg (H.fw_nonneg t u hu) (H.si hu v).1) (H.sh (t + 1) hv).1
theorem HOk.fw_sum (H : HOk G f s w n k) : ∀ t, sumR n (FW G f s w o n t) <= G ^ (2 * t + 2)
 | 0 => by
  have h1 : sumR n (FW G f s w o n 0) <= sumR n (fun v => f.getD v 0 * G) := sumR_le fun v hv => Int.mul_le_mul_of_nonneg_left (H.sh 0 hv).2 (H.fi v).1
  rw [sumR_mul, H.fi_sum] at h1
  rw [show G ^ (2 * 0 + 2) = G * G by rw [show 2 * 0 + 2 = 2 from rfl, Int.pow_succ, Int.pow_succ, Int.pow_zero, Int.one_mul]]
  exact h1
 | t + 1 => by
  have ih := H.fw_sum t
  have g1 := H.g1
  have h1 : sumR n (FW G f s w o n (t + 1)) <= sumR n (fun v => sumR n (fun u => FW G f s w o n t u * X.si s u v) * G) := sumR_le fun v hv => Int.mul_le_mul_of_nonneg_left (H.sh (t + 1) hv).2 (sumR_nonneg fun u hu => Int.mul_nonneg (H.fw_nonneg t u hu) (H.si hu v).1)
  rw [sumR_mul, sumR_swap] at h1
  have h2 : sumR n (fun u => sumR n (fun v => FW G f s w o n t u * X.si s u v)) = sumR n (FW G f s w o n t) * G := by
   rw [<- sumR_mul]; apply sumR_congr; intro u hu
   rw [sumR_mul' n (fun v => X.si s u v), H.si_sum hu]
  rw [h2] at h1
  rw [show 2 * (t + 1) + 2 = (2 * t + 2) + 1 + 1 by omega, Int.pow_succ, Int.pow_succ]
  refine Int.le_trans h1 ?_
  exact Int.mul_le_mul_of_nonneg_right (Int.mul_le_mul_of_nonneg_right ih (by omega)) (by omega)
theorem pow12 {G : Int} (g1 : 1 <= G) (g2 : G <= 12) : ∀ m, G ^ m <= 12 ^ m /\ 1 <= G ^ m
 | 0 => by simp
 | m + 1 => by
  obtain ⟨h1, h2⟩ := pow12 g1 g2 m
  rw [Int.pow_succ, Int.pow_succ]
  refine ⟨Int.le_trans (Int.mul_le_mul_of_nonneg_right h1 (by omega)) (Int.mul_le_mul_of_nonneg_left g2 (by omega)), ?_⟩
  have := Int.mul_le_mul h2 g1 (by omega) (by omega : (0 : Int) <= G ^ m)
  omega
theorem pow16 {G : Int} (g1 : 1 <= G) (g2 : G <= 12) {m : Nat} (hm : m <= 16) : G ^ m <= 184884258895036416 := by
 have h := (pow12 g1 g2 m).1
 have h2 : (12 : Int) ^ m <= 12 ^ 16 := by
  have : (12 : Nat) ^ m <= 12 ^ 16 := Nat.pow_le_pow_right (by omega) hm
  exact_mod_cast this
 have h3 : (12 : Int) ^ 16 = 184884258895036416 := by decide
 omega
theorem HOk.fw_le (H : HOk G f s w n k) {t v : Nat} (ht : t < 8) (hv : v < n) : FW G f s w o n t v <= 184884258895036416 := by
 have h1 := sumR_one (g := FW G f s w o n t) hv fun i hi => H.fw_nonneg t i hi
 have h2 := H.fw_sum (o := o) t
 have h3 := pow16 H.g1 H.g2 (m := 2 * t + 2) (by omega)
 omega
theorem HOk.fw_tot (H : HOk G f s w n k) {t : Nat} (ht : t < 8) : sumR n (FW G f s w o n t) <= 184884258895036416 := by
 have h2 := H.fw_sum (o := o) t
 have h3 := pow16 H.g1 H.g2 (m := 2 * t + 2) (by omega)
 omega
theorem HOk.fw_pre (H : HOk G f s w n k) {t v : Nat} (ht : t < 7) (hv : v < n) : sumR n (fun u => FW G f s w o n t u * X.si s u v) <= 184884258895036416 := by
 have h1 : sumR n (fun u => FW G f s w o n t u * X.si s u v) <= sumR n (fun u => FW G f s w o n t u * G) := sumR_le fun u hu => Int.mul_le_mul_of_nonneg_left (H.si hu v).2 (H.fw_nonneg t u hu)
 rw [sumR_mul] at h1
 have h2 := Int.mul_le_mul_of_nonneg_right (H.fw_sum (o := o) t) (show 0 <= G by have := H.g1; omega)
 have h3 := pow16 H.g1 H.g2 (m := 2 * t + 2 + 1) (by omega)
 rw [Int.pow_succ] at h3
 omega
end
theorem rowR_get {n v : Nat} (g : Nat -> Int) (h : v < n) : (rowR n g)[v]? = some (g v) := by
 unfold rowR; rw [List.getElem?_map, List.getElem?_range h]; rfl
theorem rowR_len (n : Nat) (g : Nat -> Int) : (rowR n g).length = n := by simp [rowR]
end X
namespace X
open Go Go.Abs Go.Sym
def wm (G : Int) (F S W O : V) : V := .list [hm G F S W, O]
structure HV (G : Int) (f : List Int) (s w : List (List Int)) (o : List Int) (n k : Nat) (F S W O : V) : Prop where
 H : HOk G f s w n k
 so : SOk o k
 F : Zs F f
 S : Tab S s
 W : Tab W w
 O : Zs O o
section
variable {G : Int} {f : List Int} {s w : List (List Int)} {o : List Int} {n k : Nat} {F S W O : V}
theorem Tab.at {R : V} {rows : List (List Int)} (h : Tab R rows) {u : Nat} (hu : u < rows.length) : Zs (R.get (u : Int)) (rows.getD u []) := by
 have := h.row u rows[u] (List.getElem?_eq_getElem hu)
 simpa [hu] using this
theorem Zs.at {x : V} {l : List Int} (h : Zs x l) {u : Nat} (hu : u < l.length) : (x.get (u : Int)).toI = l.getD u 0 := by
 rw [h.get (List.getElem?_eq_getElem hu)]; simp [hu]
theorem HV.fi (h : HV G f s w o n k F S W O) {v : Nat} (hv : v < n) : (F.get (v : Int)).toI = f.getD v 0 := h.F.at (by rw [h.H.fl]; exact hv)
theorem HV.si (h : HV G f s w o n k F S W O) {u v : Nat} (hu : u < n) (hv : v < n) : ((S.get (u : Int)).get (v : Int)).toI = X.si s u v /\ (S.get (u : Int)).len = n := by
 have hl : u < s.length := by rw [h.H.sl]; exact hu
 have hz := h.S.at hl
 have e : s.getD u [] = s[u] := by simp [hl]
 have hr := (rowB_true.1 (h.H.sr _ (List.getElem_mem hl))).1
 refine ⟨hz.at (by rw [e]; omega), by rw [hz.len, e]; omega⟩
theorem HV.wi (h : HV G f s w o n k F S W O) {v : Nat} (hv : v < n) {x : Nat} (hx : x < k) : ((W.get (v : Int)).get (x : Int)).toI = (w.getD v []).getD x 0 /\ (W.get (v : Int)).len = k := by
 have hl : v < w.length := by rw [h.H.wl]; exact hv
 have hz := h.W.at hl
 have e : w.getD v [] = w[v] := by simp [hl]
 have hr := (rowB_true.1 (h.H.wr _ (List.getElem_mem hl))).1
 refine ⟨hz.at (by rw [e]; omega), by rw [hz.len, e]; omega⟩
theorem HV.ox (h : HV G f s w o n k F S W O) {t : Nat} (ht : t < o.length) : (O.get (t : Int)).toI = o.getD t 0 /\ -1 <= o.getD t 0 /\ o.getD t 0 < (k : Int) := by
 refine ⟨h.O.at ht, ?_⟩
 have := h.so.x o[t] (List.getElem_mem ht)
 simpa [ht] using this
theorem HV.lens (h : HV G f s w o n k F S W O) : F.len = n /\ S.len = n /\ W.len = n /\ O.len = o.length := by
 refine ⟨by rw [h.F.len, h.H.fl], by rw [h.S.lenI, h.H.sl], by rw [h.W.lenI, h.H.wl], h.O.len⟩
theorem hshows_spec (h : HV G f s w o n k F S W O) {t v : Nat} (ht : t < o.length) (hv : v < n) : Fn prog hshows.f [wm G F S W O, .int t, .int v] (.int (sh G w o t v)) := by
 have m0 : (((wm G F S W O).get 0).get 0).toI = G := rfl
 have m3 : ((wm G F S W O).get 0).get 3 = W := rfl
 have mo : (wm G F S W O).get 1 = O := rfl
 obtain ⟨_, _, lw, lo⟩ := h.lens
 obtain ⟨o1, o2, o3⟩ := h.ox ht
 refine Fn.of (C := hshows.K) hshows.b ?_
 by_cases c : o.getD t 0 < 0
 ·refine Comes.last progOk hshows.p0 [] ?_ ?_
  ·simp only [HM, FT, IB, EvOk, E.b, E.i, E.v, Env.ext, evL]; rw [mo, lo, o1]; omega
  ·simp only [HM, FT, IB, EvOk, E.b, E.i, E.v, Env.ext, evL]; rw [m0]; unfold sh; rw [if_pos c]
 ·obtain ⟨x, hx⟩ : ∃ x : Nat, o.getD t 0 = (x : Int) := ⟨(o.getD t 0).toNat, by omega⟩
  obtain ⟨w1, w2⟩ := h.wi hv (x := x) (by omega)
  refine Comes.last progOk hshows.p1 [] ?_ ?_
  ·simp only [HM, FT, IB, EvOk, E.b, E.i, E.v, Env.ext, evL]; rw [m3, mo, lo, lw, o1, hx, w2]; omega
  ·simp only [HM, FT, IB, EvOk, E.b, E.i, E.v, Env.ext, evL]; rw [m3, mo, o1, hx, w1]; unfold sh; rw [if_neg c, hx]; rfl
theorem rShows_spec (h : HV G f s w o n k F S W O) {t v : Nat} (ht : t < o.length) (hv : v < n) : Fn prog rShows.f [hm G F S W, .int v, .int (o.getD t 0)] (.int (sh G w o t v)) := by
 have m0 : ((hm G F S W).get 0).toI = G := rfl
 have m3 : (hm G F S W).get 3 = W := rfl
 obtain ⟨_, _, lw, lo⟩ := h.lens
 obtain ⟨o1, o2, o3⟩ := h.ox ht
 refine Fn.of (C := rShows.K) rShows.b ?_
 by_cases c : o.getD t 0 < 0
 ·refine Comes.last progOk rShows.p0 [] ?_ ?_
  ·simp only [HM, FT, IB, EvOk, E.b, E.i, E.v, Env.ext, evL]; omega
  ·simp only [HM, FT, IB, EvOk, E.b, E.i, E.v, Env.ext, evL]; rw [m0]; unfold sh; rw [if_pos c]
 ·obtain ⟨x, hx⟩ : ∃ x : Nat, o.getD t 0 = (x : Int) := ⟨(o.getD t 0).toNat, by omega⟩
  obtain ⟨w1, w2⟩ := h.wi hv (x := x) (by omega)
  refine Comes.last progOk rShows.p1 [] ?_ ?_
  ·simp only [HM, FT, IB, EvOk, E.b, E.i, E.v, Env.ext, evL]; rw [m3, lw, hx, w2]; omega
  ·simp only [HM, FT, IB, EvOk, E.b, E.i, E.v, Env.ext, evL]; rw [m3, hx, w1]; unfold sh; rw [if_neg c, hx]; rfl
structure Upto (T t : Nat) (g : Nat -> List Int) (x : V) : Prop where
 len : x.els.length = T
 row : ∀ j, j < t -> Zs (x.get (j : Int)) (g j)
 rest : ∀ j, t <= j -> j < T -> x.get (j : Int) = .nil
theorem Upto.lenI {T t : Nat} {g : Nat -> List Int} {x : V} (h : Upto T t g x) : x.len = (T : Int) := by simp [V.len, h.len]
theorem set_at {x y : V} {i j : Nat} (hi : i < x.els.length) : (x.set (i : Int) y).get (j : Int) = if j = i then y else x.get (j : Int) := by
 simp only [V.set, V.get, els_list, Int.toNat_natCast]
 by_cases h : j = i
 ·subst h; rw [if_pos rfl, List.getElem?_set_self hi]; rfl
 ·rw [if_neg h, List.getElem?_set_ne (by omega)]
theorem Upto.put {T t : Nat} {g : Nat -> List Int} {x y : V} (h : Upto T t g x) (ht : t < T) (hy : Zs y (g t)) : Upto T (t + 1) g (x.set (t : Int) y) := by
 have hl : t < x.els.length := by rw [h.len]; exact ht
 refine ⟨by simp [V.set, els_list, h.len], fun j hj => ?_, fun j h1 h2 => ?_⟩
 ·rw [set_at hl]
  by_cases q : j = t
  ·rw [if_pos q, q]; exact hy
  ·rw [if_neg q]; exact h.row j (by omega)
 ·rw [set_at hl, if_neg (by omega)]; exact h.rest j (by omega) h2
theorem Upto.tab {T : Nat} {g : Nat -> List Int} {x : V} (h : Upto T T g x) : Tab x ((List.range T).map g) := by
 refine ⟨by simp [h.len], fun j r hj => ?_⟩
 have hlt : j < T := by simpa using (List.getElem?_eq_some_iff.1 hj).1
 rw [List.getElem?_map, List.getElem?_range hlt] at hj
 simp at hj; subst hj
 exact h.row j hlt
theorem upto0 (T : Nat) (g : Nat -> List Int) : Upto T 0 g (V.rep (T : Int) .nil) := by
 refine ⟨by simp [V.rep, els_list], fun j hj => by omega, fun j _ h2 => ?_⟩
 simp [V.rep, V.get, els_list, h2]
theorem take_snoc {l : List Int} {i : Nat} {x : Int} (h : l[i]? = some x) : l.take (i + 1) = l.take i ++ [x] := by
 rw [List.take_add_one, h]; rfl
abbrev fwR (G : Int) (f : List Int) (s w : List (List Int)) (o : List Int) (n t : Nat) : List Int := rowR n (FW G f s w o n t)
def bef (G : Int) (f : List Int) (s w : List (List Int)) (o : List Int) (n : Nat) : Nat -> List Int
 | 0 => []
 | t + 1 => fwR G f s w o n t
theorem forward_cell (h : HV G f s w o n k F S W O) {t v : Nat} (ht : t < o.length) (hv : v < n) {row b0 b1 out r : V} {l : List Int} (hb : Zs b0 (bef G f s w o n t)) (hrow : Zs row l) (hlr : l.length <= 100) (hol : out.len = (o.length : Int))
  (nx : Comes forward.K forward.f forward.s4 ⟨[(t : Int), (v : Int) + 1], [], [wm G F S W O, row, row.snoc (.int (FW G f s w o n t v)), b1, out]⟩ r) :
  Comes forward.K forward.f forward.s3 ⟨[(v : Int), (t : Int), b0.len, 0, 0], [], [wm G F S W O, row, b0, b1, b0, out]⟩ r := by
 have m1 : ((wm G F S W O).get 0).get 1 = F := rfl
 have m2 : ((wm G F S W O).get 0).get 2 = S := rfl
 obtain ⟨lf, ls, lw, lo⟩ := h.lens
 have hlo := h.so.l8
 have hn4 := h.H.n4
 have rl := hrow.len
 have sp := hshows_spec h ht hv
 obtain ⟨sh1, sh2⟩ := h.H.sh (o := o) t hv
 have fw0 := h.H.fw_nonneg (o := o) t v hv
 have fw1 := h.H.fw_le (o := o) (t := t) (by omega) hv
 have bl := hb.len
 cases t with
 | zero =>
  have b0l : b0.len = 0 := by rw [bl]; rfl
  have fi := h.fi hv
  refine Comes.step progOk forward.p6 [.int (sh G w o 0 v)] ?_ ?_
  ·simp only [HM, FT, IB, EvOk, E.b, E.i, E.v, Env.ext, evL]; rw [m1, lf, b0l, hol, rl, fi]
   have e : f.getD v 0 * sh G w o 0 v = FW G f s w o n 0 v := rfl
   rw [e]
   exact ⟨by omega, by omega, by omega, sp, by omega, by omega, by omega, by omega, by omega, by omega⟩
  ·simp only [Sub.ev, E.v, E.i, Env.ext, List.map_cons, List.map_nil, evL]
   rw [m1, fi]
   exact nx
 | succ t =>
  have b0l : b0.len = (n : Int) := by rw [bl]; simp [bef, rowR_len]
  have bat : ∀ u, u < n -> (b0.get (u : Int)).toI = FW G f s w o n t u := fun u hu => hb.get (rowR_get _ hu)
  have tot := h.H.fw_pre (o := o) (t := t) (v := v) (by omega) hv
  have nn : ∀ u, u < n -> 0 <= FW G f s w o n t u * X.si s u v := fun u hu => Int.mul_nonneg (h.H.fw_nonneg t u hu) (h.H.si hu v).1
  have loop : ∀ (q u : Nat) (u' sum : Int), q + u = n -> u' = u -> sum = sumR u (fun u => FW G f s w o n t u * X.si s u v) -> Comes forward.K forward.f forward.s3 ⟨[(v : Int), ((t + 1 : Nat) : Int), b0.len, sum, u'], [], [wm G F S W O, row, b0, b1, b0, out]⟩ r := by
   intro q
   induction q with
   | zero =>
    intro u u' sum hq hu hs
    have : u = n := by omega
    subst hu this
    have e : sum * sh G w o (t + 1) v = FW G f s w o u (t + 1) v := by rw [hs]; rfl
    refine Comes.step progOk forward.p7 [.int (sh G w o (t + 1) v)] ?_ ?_
    ·simp only [HM, FT, IB, EvOk, E.b, E.i, E.v, Env.ext, evL]; rw [b0l, hol, rl, e]
     exact ⟨by omega, by omega, sp, by omega, by omega, by omega, by omega, by omega, by omega⟩
    ·simp only [Sub.ev, E.v, E.i, Env.ext, List.map_cons, List.map_nil, evL]
     rw [e]
     exact nx
   | succ q ih =>
    intro u u' sum hq hu hs
    subst hu
    have nx2 := ih (u + 1) ((u : Int) + 1) (sum + FW G f s w o n t u * X.si s u v) (by omega) (by omega) (by rw [sumR_succ, hs])
    obtain ⟨s1, s2⟩ := h.si (u := u) (v := v) (by omega) hv
    have hb1 := bat u (by omega)
    have mono := sumR_mono (m := u + 1) (n := n) (by omega) nn
    rw [sumR_succ, <- hs] at mono
    have p0 := sumR_nonneg (n := u) (g := fun u => FW G f s w o n t u * X.si s u v) fun i hi => nn i (by omega)
    rw [<- hs] at p0
    have p1 := nn u (by omega)
    refine Comes.step progOk forward.p5 [] ?_ ?_
    ·simp only [HM, FT, IB, EvOk, E.b, E.i, E.v, Env.ext, evL]; rw [m2, ls, b0l, s1, s2, hb1]
     generalize FW G f s w o n t u * X.si s u v = z at *
     omega
    ·simp only [Sub.ev, E.v, E.i, Env.ext, List.map_cons, List.map_nil, evL]
     rw [m2, s1, hb1]
     exact nx2
  exact loop n 0 0 0 (by omega) rfl rfl
end
end X
namespace X
open Go Go.Abs Go.Sym
section
variable {G : Int} {f : List Int} {s w : List (List Int)} {o : List Int} {n k : Nat} {F S W O : V}
theorem rowR_take_all (n : Nat) (g : Nat -> Int) : (rowR n g).take n = rowR n g := List.take_of_length_le (by rw [rowR_len]; omega)
theorem set_self {x y : V} {i : Nat} (hi : i < x.els.length) : (x.set (i : Int) y).get (i : Int) = y := by rw [set_at hi, if_pos rfl]
def lz (l : List Int) : V := .list (l.map V.int)
theorem lz_zs (l : List Int) : Zs (lz l) l := rfl
theorem snoc_lz {x : V} {l : List Int} (h : Zs x l) (a : Int) : x.snoc (.int a) = lz (l ++ [a]) := by
 unfold Zs at h; unfold V.snoc lz; rw [h]; simp
theorem forward_row (h : HV G f s w o n k F S W O) {t : Nat} (ht : t < o.length) {b0 out r : V} (hb : Zs b0 (bef G f s w o n t)) (hu : Upto o.length t (fwR G f s w o n) out)
  (nx : Comes forward.K forward.f forward.s1 ⟨[(t : Int) + 1], [], [wm G F S W O, lz (fwR G f s w o n t), out.set (t : Int) (lz (fwR G f s w o n t))]⟩ r) :
  Comes forward.K forward.f forward.s1 ⟨[(t : Int)], [], [wm G F S W O, b0, out]⟩ r := by
 have m1 : ((wm G F S W O).get 0).get 1 = F := rfl
 have mo : (wm G F S W O).get 1 = O := rfl
 obtain ⟨lf, ls, lw, lo⟩ := h.lens
 have hlo := h.so.l8
 have hn1 := h.H.n1
 have hn4 := h.H.n4
 have hol := hu.lenI
 have hnil := hu.rest t (Nat.le_refl _) ht
 have hlt : t < out.els.length := by rw [hu.len]; exact ht
 have cells : ∀ (q v : Nat) (r1 : V), q + v = n -> 0 < v -> Comes forward.K forward.f forward.s4 ⟨[(t : Int), (v : Int)], [], [wm G F S W O, r1, lz ((fwR G f s w o n t).take v), b0, out]⟩ r := by
  intro q
  induction q with
  | zero =>
   intro v r1 hq hv
   have : v = n := by omega
   subst this
   rw [rowR_take_all]
   have e := set_self (y := lz (fwR G f s w o v t)) hlt
   refine Comes.step progOk forward.p9 [] ?_ ?_
   ·simp only [HM, FT, IB, EvOk, E.b, E.i, E.v, Env.ext, evL]; rw [m1, lf, hol]; omega
   ·simp only [Sub.ev, E.v, E.i, Env.ext, List.map_cons, List.map_nil, evL]
    rw [e]
    exact nx
  | succ q ih =>
   intro v r1 hq hv
   have hvn : v < n := by omega
   have nx2 := ih (v + 1) (lz ((fwR G f s w o n t).take v)) (by omega) (by omega)
   rw [take_snoc (rowR_get _ hvn), <- snoc_lz (lz_zs _)] at nx2
   have := forward_cell h ht hvn (b1 := b0) hb (lz_zs _) (by rw [List.length_take, rowR_len]; omega) hol nx2
   refine Comes.step progOk forward.p8 [] ?_ this
   simp only [HM, FT, IB, EvOk, E.b, E.i, E.v, Env.ext, evL]; rw [m1, lf, hol]; omega
 have c1 := cells (n - 1) 1 .nil (by omega) (by omega)
 rw [take_snoc (rowR_get (n := n) (v := 0) (FW G f s w o n t) (by omega)), List.take_zero, <- snoc_lz (x := .nil) (l := []) rfl] at c1
 have h0 := forward_cell h ht (v := 0) (by omega) (row := .nil) (b1 := b0) (l := []) hb rfl (by simp) hol c1
 have h1 : Comes forward.K forward.f forward.s2 ⟨[(t : Int)], [], [wm G F S W O, b0, out]⟩ r := by
  refine Comes.step progOk forward.p3 [] ?_ h0
  simp only [HM, FT, IB, EvOk, E.b, E.i, E.v, Env.ext, evL]; rw [m1, lf, hol, hnil]
  exact ⟨by omega, by omega, rfl, by omega, by omega⟩
 refine Comes.step progOk forward.p1 [] ?_ h1
 simp only [HM, FT, IB, EvOk, E.b, E.i, E.v, Env.ext, evL]; rw [mo, lo]; omega
theorem forward_spec (h : HV G f s w o n k F S W O) : ∃ X, Tab X ((List.range o.length).map (fwR G f s w o n)) /\ Fn prog forward.f [wm G F S W O] X := by
 have mo : (wm G F S W O).get 1 = O := rfl
 obtain ⟨lf, ls, lw, lo⟩ := h.lens
 have hlo := h.so.l8
 have loop : ∀ (q t : Nat) (t' : Int) (b0 out : V), q + t = o.length -> t' = t -> Zs b0 (bef G f s w o n t) -> Upto o.length t (fwR G f s w o n) out -> ∃ X, Tab X ((List.range o.length).map (fwR G f s w o n)) /\ Comes forward.K forward.f forward.s1 ⟨[t'], [], [wm G F S W O, b0, out]⟩ X := by
  intro q
  induction q with
  | zero =>
   intro t t' b0 out hq ht hb hu
   have : t = o.length := by omega
   subst ht this
   refine ⟨out, hu.tab, Comes.last progOk forward.p2 [] ?_ ?_⟩
   ·simp only [HM, FT, IB, EvOk, E.b, E.i, E.v, Env.ext, evL]; rw [mo, lo]; omega
   ·simp only [HM, FT, IB, EvOk, E.b, E.i, E.v, Env.ext, evL]
  | succ q ih =>
   intro t t' b0 out hq ht hb hu
   subst ht
   obtain ⟨X, q1, q2⟩ := ih (t + 1) ((t : Int) + 1) _ _ (by omega) (by omega) (lz_zs _) (hu.put (by omega) (lz_zs _))
   exact ⟨X, q1, forward_row h (by omega) hb hu q2⟩
 obtain ⟨X, q1, q2⟩ := loop o.length 0 0 .nil (V.rep (o.length : Int) .nil) (by omega) rfl rfl (upto0 _ _)
 refine ⟨X, q1, Fn.of (C := forward.K) forward.b (Comes.step progOk forward.p0 [] ?_ ?_)⟩
 ·simp only [HM, FT, IB, EvOk, E.b, E.i, E.v, Env.ext, evL]; rw [mo, lo]; omega
 ·simp only [Sub.ev, E.v, E.i, Env.ext, List.map_cons, List.map_nil, evL]
  rw [mo, lo]
  exact q2
end
end X
namespace X
open Go Go.Abs Go.Sym
structure Down (T t : Nat) (g : Nat -> List Int) (x : V) : Prop where
 len : x.els.length = T
 row : ∀ j, t <= j -> j < T -> Zs (x.get (j : Int)) (g j)
 rest : ∀ j, j < t -> x.get (j : Int) = .nil
theorem Down.lenI {T t : Nat} {g : Nat -> List Int} {x : V} (h : Down T t g x) : x.len = (T : Int) := by simp [V.len, h.len]
theorem Down.put {T t : Nat} {g : Nat -> List Int} {x y : V} (h : Down T (t + 1) g x) (ht : t < T) (hy : Zs y (g t)) : Down T t g (x.set (t : Int) y) := by
 have hl : t < x.els.length := by rw [h.len]; exact ht
 refine ⟨by simp [V.set, els_list, h.len], fun j h1 h2 => ?_, fun j h1 => ?_⟩
 ·rw [set_at hl]
  by_cases q : j = t
  ·rw [if_pos q, q]; exact hy
  ·rw [if_neg q]; exact h.row j (by omega) h2
 ·rw [set_at hl, if_neg (by omega)]; exact h.rest j (by omega)
theorem Down.tab {T : Nat} {g : Nat -> List Int} {x : V} (h : Down T 0 g x) : Tab x ((List.range T).map g) := by
 refine ⟨by simp [h.len], fun j r hj => ?_⟩
 have hlt : j < T := by simpa using (List.getElem?_eq_some_iff.1 hj).1
 rw [List.getElem?_map, List.getElem?_range hlt] at hj
 simp at hj; subst hj
 exact h.row j (by omega) hlt
def BT (G : Int) (s w : List (List Int)) (o : List Int) (n t : Nat) : Nat -> Int := BW G s w o n (o.length - 1 - t)
abbrev bwR (G : Int) (s w : List (List Int)) (o : List Int) (n t : Nat) : List Int := rowR n (BT G s w o n t)
section
variable {G : Int} {f : List Int} {s w : List (List Int)} {o : List Int} {n k : Nat} {F S W O : V}
def bnx (G : Int) (s w : List (List Int)) (o : List Int) (n t : Nat) : V := if t + 1 < o.length then lz (bwR G s w o n (t + 1)) else .nil
end
end X
namespace X
open Go Go.Abs Go.Sym
def inK (k : Int) (x : Int) : Bool := decide (-1 <= x /\ x < k)
def seenOk (o : List Int) (k : Int) : Bool := o.all (inK k) && decide (1 <= o.length /\ o.length <= 8)
def code17 (G : Int) (f : List Int) (s w : List (List Int)) (o : List Int) : Int := if okH G f s w = false then 170 else if seenOk o (hdl w) then 0 else 2
section
variable {G : Int} {f : List Int} {s w : List (List Int)} {F S W O : V} {o : List Int}
theorem inK_true {k x : Int} (h1 : -1 <= x) (h2 : x < k) : inK k x = true := decide_eq_true ⟨h1, h2⟩
theorem inK_lo {k x : Int} (h : x < -1) : inK k x = false := decide_eq_false (by omega)
theorem inK_hi {k x : Int} (h : k <= x) : inK k x = false := decide_eq_false (by omega)
theorem rSeen_spec (M : HMod G F S W f s w) (hw : 0 < w.length) (hO : Zs O o) (hl : o.length <= 10) : Fn prog rSeen.f [hm G F S W, O] (.bool (seenOk o (hdl w))) := by
 have m3 : (hm G F S W).get 3 = W := rfl
 have lw := M.shw.lenI
 have lo := hO.len
 have hw0 := hd_len M.shw hw
 have loop : ∀ (t i : Nat) (i' : Int), t + i = o.length -> i' = i -> Comes rSeen.K rSeen.f rSeen.s1 ⟨[i'], [], [hm G F S W, O]⟩ (.bool ((o.drop i).all (inK (hdl w)) && decide (1 <= o.length /\ o.length <= 8))) := by
  intro t
  induction t with
  | zero =>
   intro i i' ht hi
   subst hi
   rw [List.drop_eq_nil_of_le (by omega)]
   by_cases h1 : 1 <= o.length
   ·refine Comes.last progOk rSeen.p4 [] ?_ ?_
    ·simp only [HM, FT, IB, EvOk, E.b, E.i, E.v, Env.ext, evL]; rw [lo]; omega
    ·simp only [HM, FT, IB, EvOk, E.b, E.i, E.v, Env.ext, evL]; rw [lo]
     by_cases h8 : o.length <= 8
     ·rw [show decide (1 <= o.length /\ o.length <= 8) = true from decide_eq_true ⟨h1, h8⟩, show leB (o.length : Int) 8 = true from leB_iff.2 (by omega)]; rfl
     ·rw [show decide (1 <= o.length /\ o.length <= 8) = false from decide_eq_false (by omega), show leB (o.length : Int) 8 = false from leB_not.2 (by omega)]; rfl
   ·refine Comes.last progOk rSeen.p5 [] ?_ ?_
    ·simp only [HM, FT, IB, EvOk, E.b, E.i, E.v, Env.ext, evL]; rw [lo]; omega
    ·rw [show decide (1 <= o.length /\ o.length <= 8) = false from decide_eq_false (by omega)]; rfl
  | succ t ih =>
   intro i i' ht hi
   subst hi
   obtain ⟨x, hx⟩ : ∃ e', o[i]? = some e' := ⟨_, List.getElem?_eq_getElem (by omega)⟩
   have gx := hO.get hx
   rw [drop_cons' hx, List.all_cons]
   by_cases a : x < -1
   ·rw [inK_lo a]
    refine Comes.last progOk rSeen.p1 [] ?_ rfl
    simp only [HM, FT, IB, EvOk, E.b, E.i, E.v, Env.ext, evL]; rw [lo, gx]; omega
   ·by_cases b : (hdl w : Int) <= x
    ·rw [inK_hi b]
     refine Comes.last progOk rSeen.p2 [] ?_ rfl
     simp only [HM, FT, IB, EvOk, E.b, E.i, E.v, Env.ext, evL]; rw [m3, lo, lw, gx, hw0]; omega
    ·rw [inK_true (by omega) (by omega), Bool.true_and]
     refine Comes.step progOk rSeen.p3 [] ?_ (ih (i + 1) ((i : Int) + 1) (by omega) (by omega))
     simp only [HM, FT, IB, EvOk, E.b, E.i, E.v, Env.ext, evL]; rw [m3, lo, lw, gx, hw0]; omega
 exact Fn.of (C := rSeen.K) rSeen.b (Comes.step progOk rSeen.p0 [] trivial (loop o.length 0 0 (by omega) rfl))
theorem okH_w (h : okH G f s w = true) : 0 < w.length := by
 obtain ⟨n, k, H⟩ := okH_iff.1 h
 have := H.wl; have := H.n1; omega
theorem rErrors_spec (M : HMod G F S W f s w) (hO : Zs O o) (hl : o.length <= 10) : Fn prog rErrors.f [hm G F S W, O] (.int (code17 G f s w o)) := by
 have f1 := rRight_spec M
 refine Fn.of (C := rErrors.K) rErrors.b ?_
 unfold code17
 cases h : okH G f s w with
 | false =>
  rw [h] at f1
  refine Comes.last progOk rErrors.p0 [.bool false] ?_ rfl
  simp only [HM, FT, IB, EvOk, E.b, E.i, E.v, Env.ext, evL]; exact f1
 | true =>
  rw [h] at f1
  have f2 := rSeen_spec M (okH_w h) hO hl
  cases h2 : seenOk o (hdl w) with
  | false =>
   rw [h2] at f2
   refine Comes.last progOk rErrors.p1 [.bool true, .bool false] ?_ rfl
   simp only [HM, FT, IB, EvOk, E.b, E.i, E.v, Env.ext, evL]; exact ⟨f1, f2⟩
  | true =>
   rw [h2] at f2
   refine Comes.last progOk rErrors.p2 [.bool true, .bool true] ?_ rfl
   simp only [HM, FT, IB, EvOk, E.b, E.i, E.v, Env.ext, evL]; exact ⟨f1, f2⟩
def wm0 : V := .list [.list [.int 0, .nil, .nil, .nil], .nil]
theorem watch_spec (M : HMod G F S W f s w) (hO : Zs O o) (hl : o.length <= 10) : Fn prog watch.f [hm G F S W, O] (if code17 G f s w o = 0 then .list [wm G F S W O, .int 0] else .list [wm0, .int (code17 G f s w o)]) := by
 have m3 : (hm G F S W).get 3 = W := rfl
 have lw := M.shw.lenI
 have lo := hO.len
 have f1 := hvalid_spec M
 refine Fn.of (C := watch.K) watch.b ?_
 cases h : okH G f s w with
 | false =>
  rw [h] at f1
  have e : code17 G f s w o = 170 := by unfold code17; rw [if_pos h]
  rw [e]
  refine Comes.last progOk watch.p0 [.bool false] ?_ rfl
  simp only [HM, FT, IB, EvOk, E.b, E.i, E.v, Env.ext, evL]; exact f1
 | true =>
  rw [h] at f1
  have hw0 := hd_len M.shw (okH_w h)
  have hwl := okH_w h
  have bad : seenOk o (hdl w) = false -> code17 G f s w o = 2 := by
   intro q; unfold code17; rw [if_neg (by simp [h]), q]; rfl
  by_cases a1 : o.length < 1
  ·rw [bad (by unfold seenOk; rw [show decide (1 <= o.length /\ o.length <= 8) = false from decide_eq_false (by omega)]; simp)]
   refine Comes.last progOk watch.p1 [.bool true] ?_ rfl
   simp only [HM, FT, IB, EvOk, E.b, E.i, E.v, Env.ext, evL]; rw [lo]; exact ⟨f1, by omega⟩
  by_cases a2 : 8 < o.length
  ·rw [bad (by unfold seenOk; rw [show decide (1 <= o.length /\ o.length <= 8) = false from decide_eq_false (by omega)]; simp)]
   refine Comes.last progOk watch.p2 [.bool true] ?_ rfl
   simp only [HM, FT, IB, EvOk, E.b, E.i, E.v, Env.ext, evL]; rw [lo]; exact ⟨f1, by omega, by omega⟩
  have hso : seenOk o (hdl w) = o.all (inK (hdl w)) := by
   unfold seenOk; rw [show decide (1 <= o.length /\ o.length <= 8) = true from decide_eq_true ⟨by omega, by omega⟩]; simp
  have loop : ∀ (t i : Nat) (i' : Int), t + i = o.length -> i' = i -> seenOk o (hdl w) = (o.drop i).all (inK (hdl w)) -> Comes watch.K watch.f watch.s1 ⟨[i'], [], [hm G F S W, O, .bool true]⟩ (if code17 G f s w o = 0 then .list [wm G F S W O, .int 0] else .list [wm0, .int (code17 G f s w o)]) := by
   intro t
   induction t with
   | zero =>
    intro i i' ht hi he
    subst hi
    rw [List.drop_eq_nil_of_le (by omega)] at he
    have : code17 G f s w o = 0 := by unfold code17; rw [if_neg (by simp [h]), he]; rfl
    rw [if_pos this]
    refine Comes.last progOk watch.p7 [] ?_ rfl
    simp only [HM, FT, IB, EvOk, E.b, E.i, E.v, Env.ext, evL]; rw [lo]; omega
   | succ t ih =>
    intro i i' ht hi he
    subst hi
    obtain ⟨x, hx⟩ : ∃ e', o[i]? = some e' := ⟨_, List.getElem?_eq_getElem (by omega)⟩
    have gx := hO.get hx
    rw [drop_cons' hx, List.all_cons] at he
    by_cases a : x < -1
    ·rw [inK_lo a] at he
     rw [bad (by rw [he]; rfl)]
     refine Comes.last progOk watch.p4 [] ?_ rfl
     simp only [HM, FT, IB, EvOk, E.b, E.i, E.v, Env.ext, evL]; rw [lo, gx]; omega
    ·by_cases b : (hdl w : Int) <= x
     ·rw [inK_hi b] at he
      rw [bad (by rw [he]; rfl)]
      refine Comes.last progOk watch.p5 [] ?_ rfl
      simp only [HM, FT, IB, EvOk, E.b, E.i, E.v, Env.ext, evL]; rw [m3, lo, lw, gx, hw0]; omega
     ·rw [inK_true (by omega) (by omega), Bool.true_and] at he
      refine Comes.step progOk watch.p6 [] ?_ (ih (i + 1) ((i : Int) + 1) (by omega) (by omega) he)
      simp only [HM, FT, IB, EvOk, E.b, E.i, E.v, Env.ext, evL]; rw [m3, lo, lw, gx, hw0]; omega
  refine Comes.step progOk watch.p3 [.bool true] ?_ (loop o.length 0 0 (by omega) rfl (by rw [hso, List.drop_zero]))
  simp only [HM, FT, IB, EvOk, E.b, E.i, E.v, Env.ext, evL]; rw [lo]; exact ⟨f1, by omega, by omega⟩
theorem HOk.hd {n k : Nat} (H : HOk G f s w n k) : hdl w = k := by
 unfold hdl
 cases hw : w with
 | nil => have := H.wl; have := H.n1; rw [hw] at *; simp at *; omega
 | cons a l =>
  have := (rowB_true.1 (H.wr a (by rw [hw]; simp))).1
  simp; omega
theorem code0 (M : HMod G F S W f s w) (hO : Zs O o) (h : code17 G f s w o = 0) : ∃ n k, HV G f s w o n k F S W O := by
 unfold code17 at h
 cases ho : okH G f s w with
 | false => rw [if_pos ho] at h; omega
 | true =>
  rw [if_neg (by simp [ho])] at h
  obtain ⟨n, k, H⟩ := okH_iff.1 ho
  cases h2 : seenOk o (hdl w) with
  | false => rw [h2] at h; simp at h
  | true =>
   unfold seenOk at h2
   simp only [Bool.and_eq_true, decide_eq_true_eq, List.all_eq_true, inK] at h2
   refine ⟨n, k, H, ⟨h2.2.1, h2.2.2, fun x hx => ?_⟩, M.first, M.step, M.shw, hO⟩
   have := h2.1 x hx
   rw [H.hd] at this
   exact this
theorem HV.code {n k : Nat} (h : HV G f s w o n k F S W O) : code17 G f s w o = 0 := by
 have ho : okH G f s w = true := okH_iff.2 ⟨n, k, h.H⟩
 unfold code17
 rw [if_neg (by simp [ho])]
 have : seenOk o (hdl w) = true := by
  unfold seenOk
  simp only [Bool.and_eq_true, decide_eq_true_eq, List.all_eq_true, inK]
  refine ⟨fun x hx => ?_, h.so.l1, h.so.l8⟩
  rw [h.H.hd]; exact h.so.x x hx
 rw [this]; rfl
theorem HV.mod {n k : Nat} (h : HV G f s w o n k F S W O) : HMod G F S W f s w := h.H.mod h.F h.S h.W
theorem watch_ok {n k : Nat} (h : HV G f s w o n k F S W O) : Fn prog watch.f [hm G F S W, O] (.list [wm G F S W O, .int 0]) := by
 have := watch_spec h.mod h.O (by have := h.so.l8; omega)
 rw [if_pos h.code] at this; exact this
theorem watch_bad (M : HMod G F S W f s w) (hO : Zs O o) (hl : o.length <= 10) (h : ¬ code17 G f s w o = 0) : Fn prog watch.f [hm G F S W, O] (.list [wm0, .int (code17 G f s w o)]) := by
 have := watch_spec M hO hl
 rw [if_neg h] at this; exact this
theorem htotal_spec {x : V} {l : List Int} (hx : Zs x l) (hl : l.length <= 1000) (h0 : ∀ i, i < l.length -> 0 <= l.getD i 0) (hs : l.sum <= 184884258895036416) : Fn prog htotal.f [x] (.int l.sum) := by
 have xl := hx.len
 rw [<- sumR_list] at hs
 have loop : ∀ (t i : Nat) (i' sum : Int), t + i = l.length -> i' = i -> sum = sumR i (fun i => l.getD i 0) -> Comes htotal.K htotal.f htotal.s1 ⟨[sum, i'], [], [x]⟩ (.int l.sum) := by
  intro t
  induction t with
  | zero =>
   intro i i' sum ht hi hsum
   subst hi
   have : i = l.length := by omega
   subst this
   rw [sumR_list] at hsum
   refine Comes.last progOk htotal.p2 [] ?_ ?_
   ·simp only [HM, FT, IB, EvOk, E.b, E.i, E.v, Env.ext, evL]; rw [xl]; omega
   ·simp only [HM, FT, IB, EvOk, E.b, E.i, E.v, Env.ext, evL]; rw [hsum]
  | succ t ih =>
   intro i i' sum ht hi hsum
   subst hi
   have hil : i < l.length := by omega
   have gx := hx.at hil
   have mono := sumR_mono (m := i + 1) (n := l.length) (by omega) h0
   rw [sumR_succ, <- hsum] at mono
   have p0 := sumR_nonneg (n := i) (g := fun i => l.getD i 0) fun j hj => h0 j (by omega)
   rw [<- hsum] at p0
   have p1 := h0 i hil
   have nx := ih (i + 1) ((i : Int) + 1) (sum + l.getD i 0) (by omega) (by omega) (by rw [sumR_succ, hsum])
   refine Comes.step progOk htotal.p1 [] ?_ ?_
   ·simp only [HM, FT, IB, EvOk, E.b, E.i, E.v, Env.ext, evL]; rw [xl, gx]; omega
   ·simp only [Sub.ev, E.v, E.i, Env.ext, List.map_cons, List.map_nil, evL]
    rw [gx]; exact nx
 exact Fn.of (C := htotal.K) htotal.b (Comes.step progOk htotal.p0 [] trivial (loop l.length 0 0 0 (by omega) rfl rfl))
end
end X
namespace X
open Go Go.Abs Go.Sym
section
variable {G : Int} {f : List Int} {s w : List (List Int)} {o : List Int} {n k : Nat} {F S W O : V}
def tot (G : Int) (f : List Int) (s w : List (List Int)) (o : List Int) (n : Nat) : Int := sumR n (FW G f s w o n (o.length - 1))
theorem HV.tot (h : HV G f s w o n k F S W O) : 0 <= X.tot G f s w o n /\ X.tot G f s w o n <= 184884258895036416 := by
 have h8 := h.so.l8
 have h1 := h.so.l1
 exact ⟨sumR_nonneg fun i hi => h.H.fw_nonneg _ i hi, h.H.fw_tot (by omega)⟩
theorem hlast_spec {x : V} {m : Nat} (hx : x.len = m) (h1 : 1 <= m) (h2 : m <= 1000) : Fn prog hlast.f [x] (x.get ((m - 1 : Nat) : Int)) := by
 refine Fn.of (C := hlast.K) hlast.b (Comes.last progOk hlast.p0 [] ?_ ?_)
 ·simp only [HM, FT, IB, EvOk, E.b, E.i, E.v, Env.ext, evL]; rw [hx]; omega
 ·simp only [HM, FT, IB, EvOk, E.b, E.i, E.v, Env.ext, evL]; rw [hx, show (m : Int) - 1 = ((m - 1 : Nat) : Int) by omega]
theorem row_at {g : Nat -> List Int} {x : V} {T t : Nat} (hX : Tab x ((List.range T).map g)) (ht : t < T) : Zs (x.get (t : Int)) (g t) :=
 hX.row t _ (by rw [List.getElem?_map, List.getElem?_range ht]; rfl)
theorem tab_len {g : Nat -> List Int} {x : V} {T : Nat} (hX : Tab x ((List.range T).map g)) : x.len = T := by rw [hX.lenI]; simp
theorem fwR_getD {v t : Nat} (hv : v < n) : (fwR G f s w o n t).getD v 0 = FW G f s w o n t v := by
 have := rowR_get (FW G f s w o n t) hv
 rw [List.getD_eq_getElem?_getD, this]; rfl
theorem last_total (h : HV G f s w o n k F S W O) {Z : V} (hX : Tab Z ((List.range o.length).map (fwR G f s w o n))) : Fn prog hlast.f [Z] (Z.get ((o.length - 1 : Nat) : Int)) /\ Fn prog htotal.f [Z.get ((o.length - 1 : Nat) : Int)] (.int (X.tot G f s w o n)) := by
 have h8 := h.so.l8
 have h1 := h.so.l1
 have hz := row_at hX (t := o.length - 1) (by omega)
 refine ⟨hlast_spec (tab_len hX) h1 (by omega), ?_⟩
 have hn := h.H.n4
 refine htotal_spec (l := fwR G f s w o n (o.length - 1)) hz (by rw [rowR_len]; omega) (fun i hi => ?_) ?_
 ·rw [rowR_len] at hi
  rw [fwR_getD hi]; exact h.H.fw_nonneg _ i hi
 ·exact h.tot.2
theorem possible_ok (h : HV G f s w o n k F S W O) (h0 : ¬ X.tot G f s w o n = 0) : ∃ Y, Tab Y ((List.range o.length).map (fwR G f s w o n)) /\ Fn prog possible.f [wm G F S W O] (.list [Y, .int 0]) := by
 obtain ⟨Y, q1, q2⟩ := forward_spec h
 obtain ⟨q3, q4⟩ := last_total h q1
 refine ⟨Y, q1, Fn.of (C := possible.K) possible.b (Comes.last progOk possible.p1 [Y, Y.get ((o.length - 1 : Nat) : Int), .int (X.tot G f s w o n)] ?_ rfl)⟩
 simp only [HM, FT, IB, EvOk, E.b, E.i, E.v, Env.ext, evL]
 exact ⟨q2, q3, q4, h0⟩
theorem possible_zero (h : HV G f s w o n k F S W O) (h0 : X.tot G f s w o n = 0) : Fn prog possible.f [wm G F S W O] (.list [.nil, .int 7]) := by
 obtain ⟨Y, q1, q2⟩ := forward_spec h
 obtain ⟨q3, q4⟩ := last_total h q1
 refine Fn.of (C := possible.K) possible.b (Comes.last progOk possible.p0 [Y, Y.get ((o.length - 1 : Nat) : Int), .int (X.tot G f s w o n)] ?_ rfl)
 simp only [HM, FT, IB, EvOk, E.b, E.i, E.v, Env.ext, evL]
 exact ⟨q2, q3, q4, h0⟩
def cani (a b : Int) : V := can a.toNat b.toNat
theorem MakeI {a b : Int} (ha : 0 <= a) (h2 : a <= 184884258895036416) (hb : 0 < b) (hb2 : b <= 184884258895036416) : Fn prog frac_Make.f [.int a, .int b] (.list [cani a b, .int 0]) := by
 have := Make_spec (n := a.toNat) (d := b.toNat) (by omega) (by unfold big; omega) (by unfold big; omega)
 rw [Int.toNat_of_nonneg ha, Int.toNat_of_nonneg (by omega)] at this
 exact this
theorem OfI {a b : Int} (ha : 0 <= a) (h2 : a <= 184884258895036416) (hb : 0 < b) (hb2 : b <= 184884258895036416) : Fn prog ref01_Of.f [.int a, .int b] (cani a b) := by
 have := of_can (a := a.toNat) (b := b.toNat) (by unfold big; omega) (by unfold big; omega) (by omega)
 rw [Int.toNat_of_nonneg ha, Int.toNat_of_nonneg (by omega)] at this
 exact this
theorem gg {G : Int} (h1 : 1 <= G) (h2 : G <= 12) : 1 <= G * G /\ G * G <= 144 := by
 have a := Int.mul_le_mul h2 h2 (by omega) (by omega : (0 : Int) <= 12)
 have b := Int.mul_le_mul h1 h1 (by omega) (by omega : (0 : Int) <= G)
 omega
end
end X
namespace X
open Go Go.Abs Go.Sym
def plist : List V -> V
 | [] => .nil
 | a :: l => .list (a :: l)
theorem plist_els (l : List V) : (plist l).els = l := by cases l <;> rfl
theorem plist_len (l : List V) : (plist l).len = l.length := by simp [V.len, plist_els]
theorem plist_snoc (l : List V) (x : V) : (plist l).snoc x = plist (l ++ [x]) := by
 unfold V.snoc; rw [plist_els]
 cases l <;> rfl
def shr (l : List Int) (d : Int) : V := plist (l.map fun x => cani x d)
theorem shr_take {l : List Int} {d x : Int} {i : Nat} (h : l[i]? = some x) : (plist ((l.take i).map fun x => cani x d)).snoc (cani x d) = plist ((l.take (i + 1)).map fun x => cani x d) := by
 rw [plist_snoc, take_snoc h, List.map_append]; rfl
theorem getD_le_sum {l : List Int} (h0 : ∀ i, i < l.length -> 0 <= l.getD i 0) {i : Nat} (hi : i < l.length) : l.getD i 0 <= l.sum := by
 rw [<- sumR_list]; exact sumR_one (g := fun i => l.getD i 0) hi h0
section
theorem rTotal_spec {x : V} {l : List Int} (hx : Zs x l) (hl : l.length <= 1000) (h0 : ∀ i, i < l.length -> 0 <= l.getD i 0) (hs : l.sum <= 184884258895036416) : Fn prog rTotal.f [x] (.int l.sum) := by
 have xl := hx.len
 rw [<- sumR_list] at hs
 have loop : ∀ (t i : Nat) (i' sum : Int), t + i = l.length -> i' = i -> sum = sumR i (fun i => l.getD i 0) -> Comes rTotal.K rTotal.f rTotal.s1 ⟨[sum, i'], [], [x]⟩ (.int l.sum) := by
  intro t
  induction t with
  | zero =>
   intro i i' sum ht hi hsum
   subst hi
   have : i = l.length := by omega
   subst this
   rw [sumR_list] at hsum
   refine Comes.last progOk rTotal.p2 [] ?_ ?_
   ·simp only [HM, FT, IB, EvOk, E.b, E.i, E.v, Env.ext, evL]; rw [xl]; omega
   ·simp only [HM, FT, IB, EvOk, E.b, E.i, E.v, Env.ext, evL]; rw [hsum]
  | succ t ih =>
   intro i i' sum ht hi hsum
   subst hi
   have hil : i < l.length := by omega
   have gx := hx.at hil
   have mono := sumR_mono (m := i + 1) (n := l.length) (by omega) h0
   rw [sumR_succ, <- hsum] at mono
   have p0 := sumR_nonneg (n := i) (g := fun i => l.getD i 0) fun j hj => h0 j (by omega)
   rw [<- hsum] at p0
   have p1 := h0 i hil
   have nx := ih (i + 1) ((i : Int) + 1) (sum + l.getD i 0) (by omega) (by omega) (by rw [sumR_succ, hsum])
   refine Comes.step progOk rTotal.p1 [] ?_ ?_
   ·simp only [HM, FT, IB, EvOk, E.b, E.i, E.v, Env.ext, evL]; rw [xl, gx]; omega
   ·simp only [Sub.ev, E.v, E.i, Env.ext, List.map_cons, List.map_nil, evL]
    rw [gx]; exact nx
 exact Fn.of (C := rTotal.K) rTotal.b (Comes.step progOk rTotal.p0 [] trivial (loop l.length 0 0 0 (by omega) rfl rfl))
theorem rShared_spec {x : V} {l : List Int} (hx : Zs x l) (hl : l.length <= 1000) (h0 : ∀ i, i < l.length -> 0 <= l.getD i 0) (hs : l.sum <= 184884258895036416) (hp : 0 < l.sum) : Fn prog rShared.f [x] (shr l l.sum) := by
 have xl := hx.len
 have tt := rTotal_spec hx hl h0 hs
 have loop : ∀ (t i : Nat) (i' : Int), t + i = l.length -> i' = i -> Comes rShared.K rShared.f rShared.s1 ⟨[i'], [], [x, plist ((l.take i).map fun x => cani x l.sum)]⟩ (shr l l.sum) := by
  intro t
  induction t with
  | zero =>
   intro i i' ht hi
   subst hi
   rw [List.take_of_length_le (by omega)]
   refine Comes.last progOk rShared.p2 [] ?_ rfl
   simp only [HM, FT, IB, EvOk, E.b, E.i, E.v, Env.ext, evL]; rw [xl]; omega
  | succ t ih =>
   intro i i' ht hi
   subst hi
   have hil : i < l.length := by omega
   have gx := hx.at hil
   have p1 := h0 i hil
   have p2 := getD_le_sum h0 hil
   have gi : l[i]? = some (l.getD i 0) := by simp [hil]
   have ol : (plist ((l.take i).map fun x => cani x l.sum)).len = (i : Int) := by rw [plist_len]; simp; omega
   have nx := ih (i + 1) ((i : Int) + 1) (by omega) (by omega)
   rw [<- shr_take gi] at nx
   refine Comes.step progOk rShared.p1 [.int l.sum, cani (l.getD i 0) l.sum] ?_ nx
   simp only [HM, FT, IB, EvOk, E.b, E.i, E.v, Env.ext, evL]; rw [xl, ol, gx]
   exact ⟨by omega, by omega, tt, OfI p1 (by omega) hp hs, by omega, by omega⟩
 exact Fn.of (C := rShared.K) rShared.b (Comes.step progOk rShared.p0 [] trivial (loop l.length 0 0 (by omega) rfl))
end
section
variable {G : Int} {f : List Int} {s w : List (List Int)} {o : List Int} {n k : Nat} {F S W O : V}
theorem HOk.fw_zero (H : HOk G f s w n k) {t : Nat} (h0 : sumR n (FW G f s w o n t) = 0) : sumR n (FW G f s w o n (t + 1)) = 0 := by
 have z : ∀ v, v < n -> FW G f s w o n t v = 0 := fun v hv => by
  have a := sumR_one (g := FW G f s w o n t) hv fun i hi => H.fw_nonneg t i hi
  have b := H.fw_nonneg (o := o) t v hv
  omega
 have : sumR n (FW G f s w o n (t + 1)) = sumR n (fun _ => 0) := sumR_congr fun v hv => by
  show sumR n (fun u => FW G f s w o n t u * X.si s u v) * _ = 0
  rw [sumR_congr (h := fun _ => 0 * (0 : Int)) fun u hu => by rw [z u hu]; simp, sumR_mul]
  simp
 rw [this]
 have := sumR_mul n (fun _ => 0) 0
 simpa using this
theorem HOk.fw_pos (H : HOk G f s w n k) : ∀ (d t : Nat), 0 < sumR n (FW G f s w o n (t + d)) -> 0 < sumR n (FW G f s w o n t)
 | 0, t, h => h
 | d + 1, t, h => by
  refine H.fw_pos d t ?_
  have := sumR_nonneg (n := n) (g := FW G f s w o n (t + d)) fun i hi => H.fw_nonneg _ i hi
  by_cases q : sumR n (FW G f s w o n (t + d)) = 0
  ·have := H.fw_zero q
   rw [show t + (d + 1) = t + d + 1 by omega] at h
   omega
  ·omega
theorem HV.fw_pos (h : HV G f s w o n k F S W O) (h0 : ¬ X.tot G f s w o n = 0) {t : Nat} (ht : t < o.length) : 0 < sumR n (FW G f s w o n t) := by
 have ht0 := h.tot.1
 refine h.H.fw_pos (o := o) (o.length - 1 - t) t ?_
 rw [show t + (o.length - 1 - t) = o.length - 1 by omega]
 show 0 < X.tot G f s w o n
 omega
def fltV (G : Int) (f : List Int) (s w : List (List Int)) (o : List Int) (n T : Nat) : V := plist ((List.range T).map fun t => shr (fwR G f s w o n t) (sumR n (FW G f s w o n t)))
end
end X
namespace X
open Go Go.Abs Go.Sym
section
variable {G : Int} {f : List Int} {s w : List (List Int)} {o : List Int} {n k : Nat} {F S W O : V}
end
end X
namespace X
open Go Go.Abs Go.Sym
section
variable {G : Int} {f : List Int} {s w : List (List Int)} {o : List Int} {n k : Nat} {F S W O : V}
def smF (G : Int) (f : List Int) (s w : List (List Int)) (o : List Int) (n t v : Nat) : Int := FW G f s w o n t v * BT G s w o n t v
abbrev smR (G : Int) (f : List Int) (s w : List (List Int)) (o : List Int) (n t : Nat) : List Int := rowR n (smF G f s w o n t)
def smV (G : Int) (f : List Int) (s w : List (List Int)) (o : List Int) (n T : Nat) : V := plist ((List.range T).map fun t => shr (smR G f s w o n t) (tot G f s w o n))
structure Prs (n i : Nat) (a b : Nat -> Int) (x : V) : Prop where
 len : x.els.length = n
 at_ : ∀ j, j < i -> x.get (j : Int) = .list [.int (a j), .int (b j)]
theorem Prs.lenI {n i : Nat} {a b : Nat -> Int} {x : V} (h : Prs n i a b x) : x.len = (n : Int) := by simp [V.len, h.len]
theorem Prs.put {n i : Nat} {a b : Nat -> Int} {x : V} (h : Prs n i a b x) (hi : i < n) : Prs n (i + 1) a b (x.set (i : Int) (.list [.int (a i), .int (b i)])) := by
 have hl : i < x.els.length := by rw [h.len]; exact hi
 refine ⟨by simp [V.set, els_list, h.len], fun j hj => ?_⟩
 rw [set_at hl]
 by_cases q : j = i
 ·rw [if_pos q, q]
 ·rw [if_neg q]; exact h.at_ j (by omega)
end
end X
namespace X
open Go Go.Abs Go.Sym
section
variable {G : Int} {f : List Int} {s w : List (List Int)} {o : List Int} {n k : Nat} {F S W O : V}
def NW (G : Int) (f : List Int) (s w : List (List Int)) (o : List Int) (n : Nat) : Nat -> Nat -> Int
 | 0, v => FW G f s w o n (o.length - 1) v
 | j + 1, v => sumR n (fun r => NW G f s w o n j r * si s r v)
theorem HOk.nw_nonneg (H : HOk G f s w n k) : ∀ j v, v < n -> 0 <= NW G f s w o n j v
 | 0, v, hv => H.fw_nonneg _ v hv
 | j + 1, v, hv => sumR_nonneg fun r hr => Int.mul_nonneg (H.nw_nonneg j r hr) (H.si hr v).1
theorem HOk.nw_sum (H : HOk G f s w n k) : ∀ j, sumR n (NW G f s w o n j) = X.tot G f s w o n * G ^ j
 | 0 => by rw [Int.pow_zero, Int.mul_one]; rfl
 | j + 1 => by
  show sumR n (fun v => sumR n (fun r => NW G f s w o n j r * X.si s r v)) = _
  rw [sumR_swap]
  have : sumR n (fun r => sumR n (fun v => NW G f s w o n j r * X.si s r v)) = sumR n (fun r => NW G f s w o n j r * G) :=
   sumR_congr fun r hr => by rw [sumR_mul' n (fun v => X.si s r v), H.si_sum hr]
  rw [this, sumR_mul, H.nw_sum j, Int.pow_succ, Int.mul_assoc]
theorem HV.nw_le (h : HV G f s w o n k F S W O) {j : Nat} (hj : o.length + j <= 8) : sumR n (NW G f s w o n j) <= 184884258895036416 := by
 have l1 := h.so.l1
 have g1 := h.H.g1
 rw [h.H.nw_sum]
 have a : X.tot G f s w o n <= G ^ (2 * (o.length - 1) + 2) := h.H.fw_sum _
 have b := (pow12 g1 h.H.g2 j).2
 have c := Int.mul_le_mul_of_nonneg_right a (by omega : 0 <= G ^ j)
 rw [<- Int.pow_add] at c
 have d := pow16 g1 h.H.g2 (m := 2 * (o.length - 1) + 2 + j) (by omega)
 omega
theorem HV.nw_pos (h : HV G f s w o n k F S W O) (h0 : ¬ X.tot G f s w o n = 0) (j : Nat) : 0 < sumR n (NW G f s w o n j) := by
 rw [h.H.nw_sum]
 have b := (pow12 h.H.g1 h.H.g2 j).2
 have := h.tot.1
 exact Int.mul_pos (by omega) (by omega)
theorem rowR_congr {n : Nat} {g g' : Nat -> Int} (h : ∀ v, v < n -> g v = g' v) : rowR n g = rowR n g' := by
 unfold rowR; apply List.map_congr_left; intro v hv; exact h v (List.mem_range.1 hv)
theorem rowR_set (n : Nat) (g : Nat -> Int) (u : Nat) (a : Int) : (rowR n g).set u a = rowR n (fun v => if v = u then a else g v) := by
 apply List.ext_getElem?
 intro i
 by_cases hi : i < n
 ·rw [List.getElem?_set, rowR_get _ hi]
  by_cases q : u = i
  ·subst q; rw [if_pos rfl, if_pos (by rw [rowR_len]; exact hi), rowR_get _ hi, if_pos rfl]
  ·rw [if_neg q, rowR_get _ hi, if_neg (by omega)]
 ·rw [List.getElem?_eq_none (by rw [List.length_set, rowR_len]; omega), List.getElem?_eq_none (by rw [rowR_len]; omega)]
def prV (G : Int) (f : List Int) (s w : List (List Int)) (o : List Int) (n j : Nat) : V := shr (rowR n (NW G f s w o n j)) (sumR n (NW G f s w o n j))
def nwP (G : Int) (f : List Int) (s w : List (List Int)) (o : List Int) (n j r v : Nat) : Int := sumR r (fun q => NW G f s w o n j q * si s q v)
theorem nwP_le (h : HV G f s w o n k F S W O) {j r v : Nat} (hj : o.length + (j + 1) <= 8) (hr : r <= n) (hv : v < n) : 0 <= nwP G f s w o n j r v /\ nwP G f s w o n j r v <= 184884258895036416 := by
 have nn : ∀ q, q < n -> 0 <= NW G f s w o n j q * si s q v := fun q hq => Int.mul_nonneg (h.H.nw_nonneg j q hq) (h.H.si hq v).1
 refine ⟨sumR_nonneg fun q hq => nn q (by omega), ?_⟩
 have a : nwP G f s w o n j r v <= NW G f s w o n (j + 1) v := sumR_mono hr nn
 have b := sumR_one (g := NW G f s w o n (j + 1)) hv fun i hi => h.H.nw_nonneg (j + 1) i hi
 have c := h.nw_le hj
 omega
theorem predict_step (h : HV G f s w o n k F S W O) {j : Nat} (hj : o.length + (j + 1) <= 8) {v2 v4 v5 now r : V} (hnow : Zs now (rowR n (NW G f s w o n j)))
  (nx : ∀ next, Zs next (rowR n (NW G f s w o n (j + 1))) -> Comes hPredict.K hPredict.f hPredict.s1 ⟨[(j : Int) + 1], [], [hm G F S W, O, v2, .list [wm G F S W O, .int 0], v4, v5, next]⟩ r) :
  ∀ (p q : Nat) (q' : Int) (next : V), p + q = n -> q' = q -> Zs next (rowR n (nwP G f s w o n j q)) -> Comes hPredict.K hPredict.f hPredict.s2 ⟨[q', (j : Int), (n : Int)], [], [hm G F S W, O, v2, .list [wm G F S W O, .int 0], v4, v5, next, now]⟩ r := by
 have m2 : ((((V.list [wm G F S W O, .int 0]).get 0).get 0).get 2) = S := rfl
 obtain ⟨lf, ls, lw, lo⟩ := h.lens
 have hn4 := h.H.n4
 have nl := hnow.len
 rw [rowR_len] at nl
 intro p
 induction p with
 | zero =>
  intro q q' next hp hq hz
  have : q = n := by omega
  subst hq this
  refine Comes.step progOk hPredict.p8 [] ?_ (nx next hz)
  simp only [HM, FT, IB, EvOk, E.b, E.i, E.v, Env.ext, evL]; have := h.so.l1; omega
 | succ p ihp =>
  intro q q' next hp hq hz
  subst hq
  have hqn : q < n := by omega
  have gq := hnow.get (rowR_get _ hqn)
  have srow : (S.get (q : Int)).len = n := (h.si (u := q) (v := q) hqn hqn).2
  have inner : ∀ (b u : Nat) (u' : Int) (next : V), b + u = n -> u' = u -> Zs next (rowR n (fun v => if v < u then nwP G f s w o n j (q + 1) v else nwP G f s w o n j q v)) -> Comes hPredict.K hPredict.f hPredict.s4 ⟨[u', NW G f s w o n j q, (j : Int), (n : Int), (q : Int), (n : Int)], [], [hm G F S W, O, v2, .list [wm G F S W O, .int 0], v4, v5, next, now, S.get (q : Int)]⟩ r := by
   intro b
   induction b with
   | zero =>
    intro u u' next hb hu hz
    have : u = n := by omega
    subst hu this
    have nx2 := ihp (q + 1) ((q : Int) + 1) next (by omega) (by omega) (by
     rw [rowR_congr (g' := fun v => if v < u then nwP G f s w o u j (q + 1) v else nwP G f s w o u j q v) fun v hv => by simp only [if_pos hv]]
     exact hz)
    refine Comes.step progOk hPredict.p12 [] ?_ nx2
    simp only [HM, FT, IB, EvOk, E.b, E.i, E.v, Env.ext, evL]; omega
   | succ b ihb =>
    intro u u' next hb hu hz
    subst hu
    have hun : u < n := by omega
    have gu := hz.get (rowR_get _ hun)
    simp only [Nat.lt_irrefl, if_false] at gu
    have zl := hz.len
    rw [rowR_len] at zl
    obtain ⟨s1, s2⟩ := h.si (u := q) (v := u) hqn hun
    obtain ⟨a1, a2⟩ := nwP_le h hj (r := q) (by omega) hun
    obtain ⟨b1, b2⟩ := nwP_le h hj (r := q + 1) (by omega) hun
    have e : nwP G f s w o n j q u + NW G f s w o n j q * si s q u = nwP G f s w o n j (q + 1) u := by unfold nwP; rw [sumR_succ]
    have c1 : 0 <= NW G f s w o n j q * si s q u := Int.mul_nonneg (h.H.nw_nonneg j q hqn) (h.H.si hqn u).1
    have hz2 := hz.set u (nwP G f s w o n j (q + 1) u)
    rw [rowR_set, rowR_congr (g' := fun v => if v < u + 1 then nwP G f s w o n j (q + 1) v else nwP G f s w o n j q v) fun v hv => by
     by_cases q1 : v = u
     ·subst q1; simp
     ·by_cases q2 : v < u
      ·rw [if_neg q1, if_pos q2, if_pos (by omega)]
      ·rw [if_neg q1, if_neg q2, if_neg (by omega)]] at hz2
    have nx2 := ihb (u + 1) ((u : Int) + 1) _ (by omega) (by omega) hz2
    refine Comes.step progOk hPredict.p11 [] ?_ ?_
    ·simp only [HM, FT, IB, EvOk, E.b, E.i, E.v, Env.ext, evL]; rw [zl, gu, s1, s2, e]; omega
    ·simp only [Sub.ev, E.v, E.i, Env.ext, List.map_cons, List.map_nil, evL]
     rw [gu, s1, e]
     exact nx2
  have i0 := inner n 0 0 next (by omega) rfl (by
   rw [rowR_congr (g' := nwP G f s w o n j q) fun v hv => by simp]
   exact hz)
  refine Comes.step progOk hPredict.p7 [] ?_ ?_
  ·simp only [HM, FT, IB, EvOk, E.b, E.i, E.v, Env.ext, evL]; rw [m2, ls, nl]; omega
  ·simp only [Sub.ev, E.v, E.i, Env.ext, List.map_cons, List.map_nil, evL]
   rw [m2, gq, srow]
   exact i0
theorem predict_end (h : HV G f s w o n k F S W O) (h0 : ¬ X.tot G f s w o n = 0) {j : Nat} (hj : o.length + j <= 8) {v0 v1 v2 v3 v4 v5 now : V} (hnow : Zs now (rowR n (NW G f s w o n j))) :
  Comes hPredict.K hPredict.f hPredict.s3 ⟨[0, 0, (n : Int)], [], [v0, v1, v2, v3, v4, v5, now]⟩ (.list [prV G f s w o n j, .int 0]) := by
 have hn4 := h.H.n4
 have nl := hnow.len
 rw [rowR_len] at nl
 have pos := h.nw_pos h0 j
 have tot2 := h.nw_le hj
 have nn : ∀ v, v < n -> 0 <= NW G f s w o n j v := fun v hv => h.H.nw_nonneg j v hv
 have mk : ∀ (p v : Nat) (v' : Int), p + v = n -> v' = v -> Comes hPredict.K hPredict.f hPredict.s5 ⟨[sumR n (NW G f s w o n j), (n : Int), v'], [], [v0, v1, v2, v3, v4, v5, now, plist (((rowR n (NW G f s w o n j)).take v).map fun x => cani x (sumR n (NW G f s w o n j)))]⟩ (.list [prV G f s w o n j, .int 0]) := by
  intro p
  induction p with
  | zero =>
   intro v v' hp hv
   have : v = n := by omega
   subst hv this
   rw [rowR_take_all]
   refine Comes.last progOk hPredict.p14 [] ?_ rfl
   simp only [HM, FT, IB, EvOk, E.b, E.i, E.v, Env.ext, evL]; omega
  | succ p ihp =>
   intro v v' hp hv
   subst hv
   have hvn : v < n := by omega
   have gx := hnow.get (rowR_get _ hvn)
   have nx2 := ihp (v + 1) ((v : Int) + 1) (by omega) (by omega)
   rw [<- shr_take (rowR_get _ hvn)] at nx2
   have one := sumR_one (g := NW G f s w o n j) hvn nn
   have n0 := nn v hvn
   have cl : (plist (((rowR n (NW G f s w o n j)).take v).map fun x => cani x (sumR n (NW G f s w o n j)))).len = (v : Int) := by rw [plist_len]; simp [rowR_len]; omega
   refine Comes.step progOk hPredict.p13 [.list [cani (NW G f s w o n j v) (sumR n (NW G f s w o n j)), .int 0]] ?_ nx2
   simp only [HM, FT, IB, EvOk, E.b, E.i, E.v, Env.ext, evL]; rw [nl, cl, gx]
   exact ⟨by omega, by omega, MakeI n0 (by omega) pos tot2, by omega, by omega⟩
 have sm : ∀ (p v : Nat) (v' a : Int), p + v = n -> v' = v -> a = sumR v (NW G f s w o n j) -> Comes hPredict.K hPredict.f hPredict.s3 ⟨[a, v', (n : Int)], [], [v0, v1, v2, v3, v4, v5, now]⟩ (.list [prV G f s w o n j, .int 0]) := by
  intro p
  induction p with
  | zero =>
   intro v v' a hp hv ha
   have : v = n := by omega
   subst hv this
   subst ha
   refine Comes.step progOk hPredict.p10 [] ?_ ?_
   ·simp only [HM, FT, IB, EvOk, E.b, E.i, E.v, Env.ext, evL]; omega
   ·simp only [Sub.ev, E.v, E.i, Env.ext, List.map_cons, List.map_nil, evL]
    rw [nl]
    exact mk v 0 0 (by omega) rfl
  | succ p ihp =>
   intro v v' a hp hv ha
   subst hv
   have hvn : v < n := by omega
   have gx := hnow.get (rowR_get _ hvn)
   have mono := sumR_mono (g := NW G f s w o n j) (m := v + 1) (n := n) (by omega) nn
   rw [sumR_succ, <- ha] at mono
   have p0 := sumR_nonneg (n := v) (g := NW G f s w o n j) fun i hi => nn i (by omega)
   rw [<- ha] at p0
   have p1 := nn v hvn
   have nx2 := ihp (v + 1) ((v : Int) + 1) (a + NW G f s w o n j v) (by omega) (by omega) (by rw [sumR_succ, ha])
   refine Comes.step progOk hPredict.p9 [] ?_ ?_
   ·simp only [HM, FT, IB, EvOk, E.b, E.i, E.v, Env.ext, evL]; rw [nl, gx]; omega
   ·simp only [Sub.ev, E.v, E.i, Env.ext, List.map_cons, List.map_nil, evL]
    rw [gx]; exact nx2
 exact sm n 0 0 0 (by omega) rfl rfl
theorem rep0 (n : Nat) : Zs (V.rep (n : Int) (.int 0)) (rowR n fun _ => 0) := by
 unfold Zs V.rep rowR
 simp [els_list, List.map_const']
theorem hPredict_ok (h : HV G f s w o n k F S W O) (h0 : ¬ X.tot G f s w o n = 0) {m : Nat} (hm8 : o.length + m <= 8) : Fn prog hPredict.f [hm G F S W, O, .int m] (.list [prV G f s w o n m, .int 0]) := by
 obtain ⟨Y, q1, q2⟩ := possible_ok h h0
 obtain ⟨q3, q4⟩ := last_total h q1
 obtain ⟨lf, ls, lw, lo⟩ := h.lens
 have l1 := h.so.l1
 have loop : ∀ (q j : Nat) (j' : Int) (now v5 : V), q + j = m -> j' = j -> Zs now (rowR n (NW G f s w o n j)) -> Comes hPredict.K hPredict.f hPredict.s1 ⟨[j'], [], [hm G F S W, O, .int m, .list [wm G F S W O, .int 0], .list [Y, .int 0], v5, now]⟩ (.list [prV G f s w o n m, .int 0]) := by
  intro q
  induction q with
  | zero =>
   intro j j' now v5 hq hj hz
   have : j = m := by omega
   subst hj this
   have nl := hz.len
   rw [rowR_len] at nl
   have e := predict_end h h0 hm8 (v0 := hm G F S W) (v1 := O) (v2 := .int j) (v3 := .list [wm G F S W O, .int 0]) (v4 := .list [Y, .int 0]) (v5 := v5) hz
   refine Comes.step progOk hPredict.p6 [] ?_ ?_
   ·simp only [HM, FT, IB, EvOk, E.b, E.i, E.v, Env.ext, evL]; omega
   ·simp only [Sub.ev, E.v, E.i, Env.ext, List.map_cons, List.map_nil, evL]
    rw [nl]; exact e
  | succ q ih =>
   intro j j' now v5 hq hj hz
   subst hj
   have nl := hz.len
   rw [rowR_len] at nl
   have st := predict_step h (j := j) (by omega) (v2 := .int m) (v4 := .list [Y, .int 0]) (v5 := v5) hz (fun next hn => ih (j + 1) ((j : Int) + 1) next v5 (by omega) (by omega) hn) n 0 0 _ (by omega) rfl (rep0 n)
   refine Comes.step progOk hPredict.p5 [] ?_ ?_
   ·simp only [HM, FT, IB, EvOk, E.b, E.i, E.v, Env.ext, evL]; rw [nl]; have := h.H.n4; omega
   ·simp only [Sub.ev, E.v, E.i, Env.ext, List.map_cons, List.map_nil, evL]
    rw [nl]; exact st
 have hz := row_at q1 (t := o.length - 1) (by omega)
 refine Fn.of (C := hPredict.K) hPredict.b (Comes.step progOk hPredict.p4 [.list [wm G F S W O, .int 0], .list [Y, .int 0], Y.get ((o.length - 1 : Nat) : Int)] ?_ (loop m 0 0 _ _ (by omega) rfl hz))
 simp only [HM, FT, IB, EvOk, E.b, E.i, E.v, Env.ext, evL]
 rw [lo]
 exact ⟨watch_ok h, rfl, by omega, by omega, by omega, q2, rfl, q3⟩
theorem hPredict_zero (h : HV G f s w o n k F S W O) (h0 : X.tot G f s w o n = 0) {m : Int} (h1 : 0 <= m) (h2 : m <= 8 - o.length) : Fn prog hPredict.f [hm G F S W, O, .int m] (.list [.nil, .int 7]) := by
 obtain ⟨lf, ls, lw, lo⟩ := h.lens
 have l8 := h.so.l8
 refine Fn.of (C := hPredict.K) hPredict.b (Comes.last progOk hPredict.p3 [.list [wm G F S W O, .int 0], .list [.nil, .int 7]] ?_ rfl)
 simp only [HM, FT, IB, EvOk, E.b, E.i, E.v, Env.ext, evL]
 rw [lo]
 exact ⟨watch_ok h, rfl, by omega, by omega, by omega, possible_zero h h0, by decide⟩
theorem hPredict_arg (h : HV G f s w o n k F S W O) {m : Int} (hm' : m < 0 \/ 8 - (o.length : Int) < m) : Fn prog hPredict.f [hm G F S W, O, .int m] (.list [.nil, .int 2]) := by
 obtain ⟨lf, ls, lw, lo⟩ := h.lens
 have l8 := h.so.l8
 by_cases q : m < 0
 ·refine Fn.of (C := hPredict.K) hPredict.b (Comes.last progOk hPredict.p1 [.list [wm G F S W O, .int 0]] ?_ rfl)
  simp only [HM, FT, IB, EvOk, E.b, E.i, E.v, Env.ext, evL]
  exact ⟨watch_ok h, rfl, q⟩
 ·refine Fn.of (C := hPredict.K) hPredict.b (Comes.last progOk hPredict.p2 [.list [wm G F S W O, .int 0]] ?_ rfl)
  simp only [HM, FT, IB, EvOk, E.b, E.i, E.v, Env.ext, evL]
  rw [lo]
  exact ⟨watch_ok h, rfl, by omega, by omega, by omega⟩
theorem hPredict_bad (M : HMod G F S W f s w) (hO : Zs O o) (hl : o.length <= 10) (h : ¬ code17 G f s w o = 0) (m : Int) : Fn prog hPredict.f [hm G F S W, O, .int m] (.list [.nil, .int (code17 G f s w o)]) := by
 refine Fn.of (C := hPredict.K) hPredict.b (Comes.last progOk hPredict.p0 [.list [wm0, .int (code17 G f s w o)]] ?_ rfl)
 simp only [HM, FT, IB, EvOk, E.b, E.i, E.v, Env.ext, evL]
 exact ⟨watch_bad M hO hl h, h⟩
end
end X
namespace X
open Go Go.Abs Go.Sym
section
variable {G : Int} {f : List Int} {s w : List (List Int)} {o : List Int} {n k : Nat} {F S W O : V}
theorem cani_scale {a b c : Int} (ha : 0 <= a) (hb : 0 < b) (hc : 0 < c) : cani (a * c) (b * c) = cani a b := by
 obtain ⟨x, rfl⟩ : ∃ x : Nat, a = x := ⟨a.toNat, by omega⟩
 obtain ⟨y, rfl⟩ : ∃ x : Nat, b = x := ⟨b.toNat, by omega⟩
 obtain ⟨z, rfl⟩ : ∃ x : Nat, c = x := ⟨c.toNat, by omega⟩
 unfold cani
 rw [show ((x : Int) * (z : Int)).toNat = x * z by rw [<- Int.natCast_mul]; rfl, show ((y : Int) * (z : Int)).toNat = y * z by rw [<- Int.natCast_mul]; rfl, Int.toNat_natCast, Int.toNat_natCast]
 have y0 : 0 < y := by omega
 have z0 : 0 < z := by omega
 refine can_eq (Nat.mul_pos y0 z0) y0 ?_
 rw [Nat.mul_assoc, Nat.mul_comm z y]
def more (o : List Int) (j : Nat) : List Int := o ++ List.replicate j (-1)
theorem more_len (o : List Int) (j : Nat) : (more o j).length = o.length + j := by simp [more]
theorem more_lo {t : Nat} (j : Nat) (ht : t < o.length) : (more o j).getD t 0 = o.getD t 0 := by
 unfold more
 rw [List.getD_eq_getElem?_getD, List.getD_eq_getElem?_getD, List.getElem?_append_left ht]
theorem more_hi {t j : Nat} (h1 : o.length <= t) (h2 : t < o.length + j) : (more o j).getD t 0 = -1 := by
 unfold more
 rw [List.getD_eq_getElem?_getD, List.getElem?_append_right h1, List.getElem?_replicate, if_pos (by omega)]; rfl
theorem more_sh_lo {t : Nat} (j v : Nat) (ht : t < o.length) : sh G w (more o j) t v = sh G w o t v := by
 unfold sh; rw [more_lo j ht]
theorem more_sh_hi {t j : Nat} (v : Nat) (h1 : o.length <= t) (h2 : t < o.length + j) : sh G w (more o j) t v = G := by
 unfold sh; rw [more_hi h1 h2, if_pos (by decide)]
theorem more_fw_lo (j : Nat) : ∀ t v, t < o.length -> FW G f s w (more o j) n t v = FW G f s w o n t v
 | 0, v, ht => by show f.getD v 0 * _ = f.getD v 0 * _; rw [more_sh_lo j v ht]
 | t + 1, v, ht => by
  show sumR n (fun u => FW G f s w (more o j) n t u * si s u v) * _ = sumR n (fun u => FW G f s w o n t u * si s u v) * _
  rw [more_sh_lo j v ht]
  congr 1
  exact sumR_congr fun u hu => by rw [more_fw_lo j t u (by omega)]
theorem more_fw_hi (h1 : 1 <= o.length) (j : Nat) : ∀ i v, i <= j -> FW G f s w (more o j) n (o.length - 1 + i) v = NW G f s w o n i v * G ^ i
 | 0, v, hi => by
  rw [Int.pow_zero, Int.mul_one, Nat.add_zero]
  exact more_fw_lo j _ v (by omega)
 | i + 1, v, hi => by
  rw [show o.length - 1 + (i + 1) = (o.length - 1 + i) + 1 by omega]
  show sumR n (fun u => FW G f s w (more o j) n (o.length - 1 + i) u * si s u v) * sh G w (more o j) (o.length - 1 + i + 1) v = sumR n (fun r => NW G f s w o n i r * si s r v) * G ^ (i + 1)
  rw [more_sh_hi v (by omega) (by omega), Int.pow_succ, <- Int.mul_assoc]
  congr 1
  rw [<- sumR_mul]
  refine sumR_congr fun u hu => ?_
  rw [more_fw_hi h1 j i u (by omega), Int.mul_assoc, Int.mul_comm (G ^ i), <- Int.mul_assoc]
theorem HV.more (h : HV G f s w o n k F S W O) {j : Nat} (hj : o.length + j <= 8) {O' : V} (hO : Zs O' (X.more o j)) : HV G f s w (X.more o j) n k F S W O' := by
 have l1 := h.so.l1
 refine ⟨h.H, ⟨by rw [more_len]; omega, by rw [more_len]; omega, fun x hx => ?_⟩, h.F, h.S, h.W, hO⟩
 unfold X.more at hx
 rcases List.mem_append.1 hx with q | q
 ·exact h.so.x x q
 ·have := (List.mem_replicate.1 q).2
  subst this
  have := h.H.k1
  omega
theorem predict_more (h : HV G f s w o n k F S W O) (h0 : ¬ X.tot G f s w o n = 0) {j : Nat} (hj : o.length + j <= 8) : prV G f s w o n j = shr (fwR G f s w (X.more o j) n ((X.more o j).length - 1)) (sumR n (FW G f s w (X.more o j) n ((X.more o j).length - 1))) := by
 have l1 := h.so.l1
 have e : (X.more o j).length - 1 = o.length - 1 + j := by rw [more_len]; omega
 have g := (pow12 h.H.g1 h.H.g2 j).2
 have pos := h.nw_pos h0 j
 rw [e]
 have hs : sumR n (FW G f s w (X.more o j) n (o.length - 1 + j)) = sumR n (NW G f s w o n j) * G ^ j := by
  rw [<- sumR_mul]; exact sumR_congr fun v hv => more_fw_hi l1 j j v (Nat.le_refl _)
 rw [hs]
 unfold prV shr fwR rowR
 rw [List.map_map, List.map_map]
 congr 1
 apply List.map_congr_left
 intro v hv
 have hv := List.mem_range.1 hv
 show cani _ _ = cani _ _
 rw [more_fw_hi l1 j j v (Nat.le_refl _)]
 exact (cani_scale (h.H.nw_nonneg j v hv) pos (by omega)).symm
theorem more_tot (h : HV G f s w o n k F S W O) (h0 : ¬ X.tot G f s w o n = 0) {j : Nat} : ¬ X.tot G f s w (X.more o j) n = 0 := by
 have l1 := h.so.l1
 have e : (X.more o j).length - 1 = o.length - 1 + j := by rw [more_len]; omega
 have g := (pow12 h.H.g1 h.H.g2 j).2
 have pos := h.nw_pos h0 j
 unfold X.tot
 rw [e]
 have hs : sumR n (FW G f s w (X.more o j) n (o.length - 1 + j)) = sumR n (NW G f s w o n j) * G ^ j := by
  rw [<- sumR_mul]; exact sumR_congr fun v hv => more_fw_hi l1 j j v (Nat.le_refl _)
 rw [hs]
 have := Int.mul_pos pos (show 0 < G ^ j by omega)
 omega
theorem shr_len (l : List Int) (d : Int) : (shr l d).len = l.length := by unfold shr; rw [plist_len]; simp
end
end X
namespace X
open Go Go.Abs Go.Sym
def pth (n : Nat) : Nat -> List (List Nat)
 | 0 => [[]]
 | m + 1 => (pth n m).flatMap fun p => (List.range n).map fun s => p ++ [s]
def IL (p : List Nat) : List Int := p.map Int.ofNat
theorem pth_mem {n : Nat} : ∀ {m : Nat} {p : List Nat}, p ∈ pth n m -> p.length = m /\ ∀ x ∈ p, x < n
 | 0, p, h => by simp [pth] at h; subst h; simp
 | m + 1, p, h => by
  obtain ⟨q, hq, h⟩ := List.mem_flatMap.1 h
  obtain ⟨s, hs, rfl⟩ := List.mem_map.1 h
  obtain ⟨h1, h2⟩ := pth_mem hq
  have hs := List.mem_range.1 hs
  refine ⟨by simp [h1], fun x hx => ?_⟩
  rcases List.mem_append.1 hx with a | a
  ·exact h2 x a
  ·simp at a; omega
theorem flat_len {n : Nat} : ∀ (l : List (List Nat)), (l.flatMap fun p => (List.range n).map fun s => p ++ [s]).length = l.length * n
 | [] => by simp
 | a :: l => by rw [List.flatMap_cons, List.length_append, flat_len l]; simp [Nat.add_mul, Nat.add_comm]
theorem pth_len (n : Nat) : ∀ m, (pth n m).length = n ^ m
 | 0 => rfl
 | m + 1 => by show (List.flatMap _ _).length = _; rw [flat_len, pth_len n m, Nat.pow_succ]
theorem IL_snoc (p : List Nat) (s : Nat) : IL (p ++ [s]) = IL p ++ [(s : Int)] := by unfold IL; simp
section
variable {G : Int} {f : List Int} {s w : List (List Int)} {o : List Int} {n k : Nat} {F S W O : V}
theorem rshort_spec (h : HV G f s w o n k F S W O) {m : Nat} (hm8 : m <= 8) : Fn prog rshort.f [hm G F S W, .int m] (.bool (decide (n ^ m <= 1024))) := by
 have m1 : (hm G F S W).get 1 = F := rfl
 obtain ⟨lf, _, _, _⟩ := h.lens
 have n1 := h.H.n1
 have n4 := h.H.n4
 have pw : ∀ i, i <= 8 -> n ^ i <= 65536 := fun i hi => Nat.le_trans (Nat.pow_le_pow_left n4 i) (Nat.le_trans (Nat.pow_le_pow_right (by omega) hi) (by decide))
 have loop : ∀ (t i : Nat) (i' a : Int), t + i = m -> i' = i -> a = ((n ^ i : Nat) : Int) -> Comes rshort.K rshort.f rshort.s1 ⟨[a, i'], [], [hm G F S W, .int m]⟩ (.bool (decide (n ^ m <= 1024))) := by
  intro t
  induction t with
  | zero =>
   intro i i' a ht hi ha
   have : i = m := by omega
   subst hi ha this
   refine Comes.last progOk rshort.p2 [] ?_ ?_
   ·simp only [HM, FT, IB, EvOk, E.b, E.i, E.v, Env.ext, evL]; omega
   ·simp only [HM, FT, IB, EvOk, E.b, E.i, E.v, Env.ext, evL]
    by_cases q : n ^ i <= 1024
    ·rw [decide_eq_true q, leB_iff.2 (by omega)]
    ·rw [decide_eq_false q, leB_not.2 (by omega)]
  | succ t ih =>
   intro i i' a ht hi ha
   subst hi ha
   have e : ((n ^ i : Nat) : Int) * (n : Int) = ((n ^ (i + 1) : Nat) : Int) := by rw [Nat.pow_succ]; simp
   have := pw (i + 1) (by omega)
   refine Comes.step progOk rshort.p1 [] ?_ ?_
   ·simp only [HM, FT, IB, EvOk, E.b, E.i, E.v, Env.ext, evL]; rw [m1, lf, e]; omega
   ·simp only [Sub.ev, E.v, E.i, Env.ext, List.map_cons, List.map_nil, evL]
    rw [m1, lf, e]
    exact ih (i + 1) ((i : Int) + 1) _ (by omega) (by omega) rfl
 exact Fn.of (C := rshort.K) rshort.b (Comes.step progOk rshort.p0 [] trivial (loop m 0 0 1 (by omega) rfl (by simp)))
theorem rPaths_spec (h : HV G f s w o n k F S W O) {m : Nat} (hm8 : m <= 8) (hp : n ^ m <= 1024) : ∃ P, Tab P ((pth n m).map IL) /\ Fn prog rPaths.f [hm G F S W, .int m] P := by
 have m1 : (hm G F S W).get 1 = F := rfl
 obtain ⟨lf, _, _, _⟩ := h.lens
 have n1 := h.H.n1
 have n4 := h.H.n4
 have pw : ∀ i, i <= m -> n ^ i <= 1024 := fun i hi => Nat.le_trans (Nat.pow_le_pow_right (by omega) hi) hp
 have loop : ∀ (q t : Nat) (t' : Int) (out : V), q + t = m -> t' = t -> Tab out ((pth n t).map IL) -> ∃ P, Tab P ((pth n m).map IL) /\ Comes rPaths.K rPaths.f rPaths.s1 ⟨[t'], [], [hm G F S W, .int m, out]⟩ P := by
  intro q
  induction q with
  | zero =>
   intro t t' out hq ht ho
   have : t = m := by omega
   subst ht this
   refine ⟨out, ho, Comes.last progOk rPaths.p2 [] ?_ ?_⟩
   ·simp only [HM, FT, IB, EvOk, E.b, E.i, E.v, Env.ext, evL]; omega
   ·simp only [HM, FT, IB, EvOk, E.b, E.i, E.v, Env.ext, evL]
  | succ q ih =>
   intro t t' out hq ht ho
   subst ht
   have ol := ho.lenI
   rw [List.length_map, pth_len] at ol
   have hpt := pw t (by omega)
   have mid : ∀ (a i : Nat) (i' : Int) (next : V), a + i = n ^ t -> i' = i -> Tab next ((((pth n t).take i).flatMap fun p => (List.range n).map fun s => p ++ [s]).map IL) -> ∃ P, Tab P ((pth n m).map IL) /\ Comes rPaths.K rPaths.f rPaths.s2 ⟨[i', (t : Int)], [], [hm G F S W, .int m, next, out]⟩ P := by
    intro a
    induction a with
    | zero =>
     intro i i' next ha hi hn
     subst hi
     rw [List.take_of_length_le (by rw [pth_len]; omega)] at hn
     obtain ⟨P, q1, q2⟩ := ih (t + 1) ((t : Int) + 1) next (by omega) (by omega) hn
     refine ⟨P, q1, Comes.step progOk rPaths.p4 [] ?_ q2⟩
     simp only [HM, FT, IB, EvOk, E.b, E.i, E.v, Env.ext, evL]; rw [ol]; omega
    | succ a iha =>
     intro i i' next ha hi hn
     subst hi
     obtain ⟨p, hpi⟩ : ∃ p, (pth n t)[i]? = some p := ⟨_, List.getElem?_eq_getElem (by rw [pth_len]; omega)⟩
     have hrow := ho.row i (IL p) (by rw [List.getElem?_map, hpi]; rfl)
     obtain ⟨pl, px⟩ := pth_mem (List.mem_of_getElem? hpi)
     have rl := hrow.len
     have rcl := hrow.copy.len
     have lIL : (IL p).length = t := by unfold IL; simp [pl]
     rw [lIL] at rl rcl
     have inner : ∀ (b u : Nat) (u' : Int) (next : V), b + u = n -> u' = u -> Tab next ((((pth n t).take i).flatMap fun p => (List.range n).map fun s => p ++ [s]).map IL ++ ((List.range u).map fun s => p ++ [s]).map IL) -> ∃ P, Tab P ((pth n m).map IL) /\ Comes rPaths.K rPaths.f rPaths.s3 ⟨[u', (i : Int), (t : Int)], [], [hm G F S W, .int m, next, out]⟩ P := by
      intro b
      induction b with
      | zero =>
       intro u u' next hb hu hn
       have : u = n := by omega
       subst hu this
       obtain ⟨P, q1, q2⟩ := iha (i + 1) ((i : Int) + 1) next (by omega) (by omega) (by
        rw [List.take_add_one, hpi, List.flatMap_append, List.map_append]
        simpa using hn)
       refine ⟨P, q1, Comes.step progOk rPaths.p6 [] ?_ q2⟩
       simp only [HM, FT, IB, EvOk, E.b, E.i, E.v, Env.ext, evL]; rw [m1, lf]; omega
      | succ b ihb =>
       intro u u' next hb hu hn
       subst hu
       have nl := hn.lenI
       rw [List.length_append, List.length_map, flat_len, List.length_take, pth_len, List.length_map, List.length_map, List.length_range] at nl
       have hmi : min i (n ^ t) * n <= 1024 * 4 := Nat.mul_le_mul (by omega) (by omega)
       have hn2 := hn.snoc (hrow.copy.snoc (u : Int))
       rw [<- IL_snoc, List.append_assoc, show ((List.range u).map fun s => p ++ [s]).map IL ++ [IL (p ++ [u])] = ((List.range (u + 1)).map fun s => p ++ [s]).map IL by rw [List.range_succ]; simp] at hn2
       obtain ⟨P, q1, q2⟩ := ihb (u + 1) ((u : Int) + 1) _ (by omega) (by omega) hn2
       refine ⟨P, q1, Comes.step progOk rPaths.p5 [] ?_ q2⟩
       simp only [HM, FT, IB, EvOk, E.b, E.i, E.v, Env.ext, evL]; rw [m1, lf, ol, rl, rcl, nl]; omega
     obtain ⟨P, q1, q2⟩ := inner n 0 0 next (by omega) rfl (by simpa using hn)
     refine ⟨P, q1, Comes.step progOk rPaths.p3 [] ?_ q2⟩
     simp only [HM, FT, IB, EvOk, E.b, E.i, E.v, Env.ext, evL]; rw [ol]; omega
   obtain ⟨P, q1, q2⟩ := mid (n ^ t) 0 0 .nil (by omega) rfl (by simpa using tab_nil)
   refine ⟨P, q1, Comes.step progOk rPaths.p1 [] ?_ q2⟩
   simp only [HM, FT, IB, EvOk, E.b, E.i, E.v, Env.ext, evL]; omega
 obtain ⟨P, q1, q2⟩ := loop m 0 0 (.list [.nil]) (by omega) rfl (tab1 (F := .nil) (f := []) rfl)
 exact ⟨P, q1, Fn.of (C := rPaths.K) rPaths.b (Comes.step progOk rPaths.p0 [] trivial q2)⟩
structure TabF (T n : Nat) (g : Nat -> Nat -> Int) (x : V) : Prop where
 len : x.els.length = T
 row : ∀ j, j < T -> Zs (x.get (j : Int)) (rowR n (g j))
theorem TabF.lenI {T n : Nat} {g : Nat -> Nat -> Int} {x : V} (h : TabF T n g x) : x.len = (T : Int) := by simp [V.len, h.len]
theorem TabF.rl {T n : Nat} {g : Nat -> Nat -> Int} {x : V} (h : TabF T n g x) {j : Nat} (hj : j < T) : (x.get (j : Int)).len = (n : Int) := by rw [(h.row j hj).len, rowR_len]
theorem TabF.at {T n : Nat} {g : Nat -> Nat -> Int} {x : V} (h : TabF T n g x) {j v : Nat} (hj : j < T) (hv : v < n) : ((x.get (j : Int)).get (v : Int)).toI = g j v := (h.row j hj).get (rowR_get _ hv)
theorem TabF.put {T n : Nat} {g : Nat -> Nat -> Int} {x : V} (h : TabF T n g x) {t v : Nat} (ht : t < T) (a : Int) : TabF T n (fun j u => if j = t /\ u = v then a else g j u) (x.set (t : Int) ((x.get (t : Int)).set (v : Int) (.int a))) := by
 have hl : t < x.els.length := by rw [h.len]; exact ht
 refine ⟨by simp [V.set, els_list, h.len], fun j hj => ?_⟩
 rw [set_at hl]
 by_cases q : j = t
 ·rw [if_pos q]
  have := (h.row t ht).set v a
  rw [rowR_set] at this
  rw [q]
  rw [rowR_congr (g' := fun u => if u = v then a else g t u) fun u hu => by simp]
  exact this
 ·rw [if_neg q, rowR_congr (g' := g j) fun u hu => by rw [if_neg (fun c => q c.1)]]
  exact h.row j hj
theorem TabF.congr {T n : Nat} {g g' : Nat -> Nat -> Int} {x : V} (h : TabF T n g x) (e : ∀ j u, j < T -> u < n -> g j u = g' j u) : TabF T n g' x :=
 ⟨h.len, fun j hj => by rw [rowR_congr fun u hu => (e j u hj hu).symm]; exact h.row j hj⟩
theorem TabF.tab {T n : Nat} {g : Nat -> Nat -> Int} {x : V} (h : TabF T n g x) : Tab x ((List.range T).map fun t => rowR n (g t)) := by
 refine ⟨by simp [h.len], fun j r hj => ?_⟩
 have hlt : j < T := by simpa using (List.getElem?_eq_some_iff.1 hj).1
 rw [List.getElem?_map, List.getElem?_range hlt] at hj
 simp at hj; subst hj
 exact h.row j hlt
theorem rzeros_spec (h : HV G f s w o n k F S W O) {m : Nat} (hm8 : m <= 8) : ∃ X, TabF m n (fun _ _ => 0) X /\ FnO prog rzeros.f [hm G F S W, .int m] X := by
 have m1 : (hm G F S W).get 1 = F := rfl
 obtain ⟨lf, _, _, _⟩ := h.lens
 have n4 := h.H.n4
 have loop : ∀ (q t : Nat) (t' : Int) (out : V), q + t = m -> t' = t -> TabF t n (fun _ _ => 0) out -> ∃ X, TabF m n (fun _ _ => 0) X /\ ComesO rzeros.K rzeros.f rzeros.s1 ⟨[t'], [], [hm G F S W, .int m, out]⟩ X := by
  intro q
  induction q with
  | zero =>
   intro t t' out hq ht ho
   have : t = m := by omega
   subst ht this
   refine ⟨out, ho, ComesO.last progOk rzeros.p2 [] ?_ ?_⟩
   ·simp only [HM, FT, IB, EvOk, E.b, E.i, E.v, Env.ext, evL]; omega
   ·simp only [HM, FT, IB, EvOk, E.b, E.i, E.v, Env.ext, evL]
  | succ q ih =>
   intro t t' out hq ht ho
   subst ht
   have ol := ho.lenI
   have hn : TabF (t + 1) n (fun _ _ => 0) (out.snoc (V.rep (n : Int) (.int 0))) := by
    refine ⟨by simp [V.snoc, els_list, ho.len], fun j hj => ?_⟩
    by_cases q1 : j < t
    ·have e : (out.snoc (V.rep (n : Int) (.int 0))).get (j : Int) = out.get (j : Int) := by
      simp [V.snoc, V.get, els_list, List.getElem?_append_left (show j < out.els.length by rw [ho.len]; exact q1)]
     rw [e]; exact ho.row j q1
    ·have : j = t := by omega
     subst this
     have e : (out.snoc (V.rep (n : Int) (.int 0))).get (j : Int) = V.rep (n : Int) (.int 0) := by
      simp [V.snoc, V.get, els_list, List.getElem?_append_right (show out.els.length <= j by rw [ho.len]; omega), ho.len]
     rw [e]; exact rep0 n
   obtain ⟨X, q1, q2⟩ := ih (t + 1) ((t : Int) + 1) _ (by omega) (by omega) hn
   refine ⟨X, q1, ComesO.step progOk rzeros.p1 [] ?_ ?_⟩
   ·simp only [HM, FT, IB, EvOk, E.b, E.i, E.v, Env.ext, evL]; rw [m1, lf, ol]; omega
   ·simp only [Sub.ev, E.v, E.i, Env.ext, List.map_cons, List.map_nil, evL]
    rw [m1, lf]; exact q2
 obtain ⟨X, q1, q2⟩ := loop m 0 0 .nil (by omega) rfl ⟨rfl, fun j hj => by omega⟩
 exact ⟨X, q1, FnO.of (C := rzeros.K) rzeros.b (ComesO.step progOk rzeros.p0 [] trivial q2)⟩
end
end X
namespace X
open Go Go.Abs Go.Sym
def lsum {α : Type} (l : List α) (g : α -> Int) : Int := (l.map g).sum
theorem lsum_nil {α : Type} (g : α -> Int) : lsum [] g = 0 := rfl
theorem lsum_cons {α : Type} (a : α) (l : List α) (g : α -> Int) : lsum (a :: l) g = g a + lsum l g := by simp [lsum]
theorem lsum_append {α : Type} (a b : List α) (g : α -> Int) : lsum (a ++ b) g = lsum a g + lsum b g := by simp [lsum]
theorem lsum_congr {α : Type} {l : List α} {g h : α -> Int} (e : ∀ a ∈ l, g a = h a) : lsum l g = lsum l h := by
 unfold lsum; rw [List.map_congr_left e]
theorem lsum_nonneg {α : Type} {l : List α} {g : α -> Int} (h : ∀ a ∈ l, 0 <= g a) : 0 <= lsum l g := by
 induction l with
 | nil => simp [lsum]
 | cons a l ih => rw [lsum_cons]; have := ih fun x hx => h x (by simp [hx]); have := h a (by simp); omega
theorem lsum_flat {α β : Type} (F : α -> List β) (g : β -> Int) : ∀ l : List α, lsum (l.flatMap F) g = lsum l (fun a => lsum (F a) g)
 | [] => rfl
 | a :: l => by rw [List.flatMap_cons, lsum_append, lsum_cons, lsum_flat F g l]
theorem lsum_map {α β : Type} (F : α -> β) (g : β -> Int) (l : List α) : lsum (l.map F) g = lsum l (fun a => g (F a)) := by
 unfold lsum; rw [List.map_map]; rfl
theorem lsum_range (n : Nat) (g : Nat -> Int) : lsum (List.range n) g = sumR n g := rfl
theorem lsum_mul {α : Type} (g : α -> Int) (c : Int) : ∀ l : List α, lsum l (fun a => g a * c) = lsum l g * c
 | [] => by simp [lsum]
 | a :: l => by rw [lsum_cons, lsum_cons, lsum_mul g c l, Int.add_mul]
theorem lsum_swap {α : Type} (n : Nat) (h : α -> Nat -> Int) : ∀ l : List α, lsum l (fun a => sumR n (h a)) = sumR n (fun r => lsum l (fun a => h a r))
 | [] => by
  show (0 : Int) = sumR n fun _ => 0
  have := sumR_mul n (fun _ => 0) 0
  simpa using this.symm
 | a :: l => by
  rw [lsum_cons, lsum_swap n h l, <- sumR_add]
  exact sumR_congr fun r hr => by rw [lsum_cons]
theorem lsum_take {α : Type} {l : List α} {g : α -> Int} {i : Nat} {a : α} (h : l[i]? = some a) : lsum (l.take (i + 1)) g = lsum (l.take i) g + g a := by
 rw [List.take_add_one, h, lsum_append]; simp [lsum]
theorem lsum_take_le {α : Type} {l : List α} {g : α -> Int} (h : ∀ a ∈ l, 0 <= g a) (i : Nat) : lsum (l.take i) g <= lsum l g := by
 have e : lsum l g = lsum (l.take i) g + lsum (l.drop i) g := by rw [<- lsum_append, List.take_append_drop]
 have := lsum_nonneg (l := l.drop i) (g := g) fun a ha => h a (List.mem_of_mem_drop ha)
 omega
theorem sumR_pick {n v : Nat} (g : Nat -> Int) (hv : v < n) : sumR n (fun s => if s = v then g s else 0) = g v := by
 have z : ∀ m, m <= v -> sumR m (fun s => if s = v then g s else 0) = 0 := by
  intro m hm
  induction m with
  | zero => rfl
  | succ m ih => rw [sumR_succ, ih (by omega), if_neg (by omega)]; rfl
 have z2 : ∀ d, sumR (v + 1 + d) (fun s => if s = v then g s else 0) = g v := by
  intro d
  induction d with
  | zero => rw [Nat.add_zero, sumR_succ, z v (Nat.le_refl _), if_pos rfl]; omega
  | succ d ih => rw [show v + 1 + (d + 1) = v + 1 + d + 1 by omega, sumR_succ, ih, if_neg (by omega)]; omega
 have := z2 (n - (v + 1))
 rwa [show v + 1 + (n - (v + 1)) = n by omega] at this
section
variable (G : Int) (f : List Int) (s w : List (List Int)) (o : List Int)
def WL (p : List Nat) : Nat -> Int
 | 0 => 1
 | t + 1 => (if t = 0 then f.getD (p.getD 0 0) 0 else WL p t * si s (p.getD (t - 1) 0) (p.getD t 0)) * sh G w o t (p.getD t 0)
end
section
variable {G : Int} {f : List Int} {s w : List (List Int)} {o : List Int} {n k : Nat} {F S W O : V}
theorem getD_app {q r : List Nat} {i : Nat} (h : i < q.length) : (q ++ r).getD i 0 = q.getD i 0 := by
 rw [List.getD_eq_getElem?_getD, List.getD_eq_getElem?_getD, List.getElem?_append_left h]
theorem getD_last {q : List Nat} {u : Nat} : (q ++ [u]).getD q.length 0 = u := by
 rw [List.getD_eq_getElem?_getD, List.getElem?_append_right (Nat.le_refl _), Nat.sub_self]; rfl
theorem WL_app {q r : List Nat} : ∀ {j : Nat}, j <= q.length -> WL G f s w o (q ++ r) j = WL G f s w o q j
 | 0, _ => rfl
 | j + 1, h => by
  unfold WL
  rw [getD_app (show j < q.length by omega), WL_app (j := j) (by omega)]
  by_cases hj : j = 0
  ·rw [if_pos hj, if_pos hj, getD_app (by omega)]
  ·rw [if_neg hj, if_neg hj, getD_app (by omega)]
theorem mem_getD {n : Nat} {p : List Nat} (h : ∀ x ∈ p, x < n) {i : Nat} (hi : i < p.length) : p.getD i 0 < n := by
 have := h p[i] (List.getElem_mem hi)
 simpa [hi] using this
theorem HOk.wgt (H : HOk G f s w n k) {p : List Nat} (hx : ∀ x ∈ p, x < n) : ∀ {t : Nat}, t <= p.length -> 0 <= WL G f s w o p t /\ WL G f s w o p t <= G ^ (2 * t)
 | 0, _ => by simp [WL]
 | t + 1, ht => by
  have g1 := H.g1
  have pt := mem_getD hx (show t < p.length by omega)
  obtain ⟨s1, s2⟩ := H.sh (o := o) t pt
  have e : G ^ (2 * (t + 1)) = G ^ (2 * t + 1) * G := by rw [show 2 * (t + 1) = 2 * t + 1 + 1 by omega, Int.pow_succ]
  obtain ⟨i1, i2⟩ := H.wgt hx (t := t) (by omega)
  have g0 : 0 <= G ^ (2 * t + 1) := by have := (pow12 g1 H.g2 (2 * t + 1)).2; omega
  have fin : ∀ {y : Int}, 0 <= y -> y <= G ^ (2 * t + 1) -> 0 <= y * X.sh G w o t (p.getD t 0) /\ y * X.sh G w o t (p.getD t 0) <= G ^ (2 * (t + 1)) := by
   intro y y1 y2
   rw [e]
   exact ⟨Int.mul_nonneg y1 s1, Int.mul_le_mul y2 s2 s1 g0⟩
  unfold WL
  by_cases h0 : t = 0
  ·rw [if_pos h0]
   subst h0
   have := H.fi (p.getD 0 0)
   exact fin this.1 (by rw [show 2 * 0 + 1 = 1 from rfl, Int.pow_succ, Int.pow_zero, Int.one_mul]; exact this.2)
  ·rw [if_neg h0]
   have pt1 := mem_getD hx (show t - 1 < p.length by omega)
   obtain ⟨a1, a2⟩ := H.si pt1 (p.getD t 0)
   refine fin (Int.mul_nonneg i1 a1) ?_
   rw [Int.pow_succ]
   exact Int.mul_le_mul i2 a2 a1 (by have := (pow12 g1 H.g2 (2 * t)).2; omega)
def acF (G : Int) (f : List Int) (s w : List (List Int)) (o : List Int) (l : List (List Nat)) (t v : Nat) : Int := lsum l fun p => if p.getD t 0 = v then WL G f s w o p (t + 1) else 0
theorem acF_pth : ∀ (t v : Nat), v < n -> acF G f s w o (pth n (t + 1)) t v = FW G f s w o n t v
 | 0, v, hv => by
  unfold acF pth
  rw [lsum_flat]
  show lsum [[]] _ = _
  rw [lsum_cons, lsum_nil, lsum_map, lsum_range, Int.add_zero]
  have : sumR n (fun u => if ([] ++ [u] : List Nat).getD 0 0 = v then WL G f s w o ([] ++ [u]) (0 + 1) else 0) = sumR n (fun u => if u = v then f.getD u 0 * sh G w o 0 u else 0) := sumR_congr fun u hu => rfl
  rw [this, sumR_pick _ hv]
  rfl
 | t + 1, v, hv => by
  unfold acF
  rw [show pth n (t + 1 + 1) = (pth n (t + 1)).flatMap fun p => (List.range n).map fun s => p ++ [s] from rfl, lsum_flat]
  have e1 : ∀ q ∈ pth n (t + 1), lsum ((List.range n).map fun s => q ++ [s]) (fun p => if p.getD (t + 1) 0 = v then WL G f s w o p (t + 1 + 1) else 0) = sumR n (fun r => (if q.getD t 0 = r then WL G f s w o q (t + 1) else 0) * si s r v) * sh G w o (t + 1) v := by
   intro q hq
   obtain ⟨ql, qx⟩ := pth_mem hq
   rw [lsum_map, lsum_range]
   have a : sumR n (fun u => if (q ++ [u]).getD (t + 1) 0 = v then WL G f s w o (q ++ [u]) (t + 1 + 1) else 0) = sumR n (fun u => if u = v then WL G f s w o q (t + 1) * si s (q.getD t 0) u * sh G w o (t + 1) u else 0) := by
    refine sumR_congr fun u hu => ?_
    have hl : (q ++ [u]).getD (t + 1) 0 = u := by rw [<- ql]; exact getD_last
    rw [hl]
    have : WL G f s w o (q ++ [u]) (t + 1 + 1) = WL G f s w o q (t + 1) * si s (q.getD t 0) u * sh G w o (t + 1) u := by
     show (if t + 1 = 0 then _ else WL G f s w o (q ++ [u]) (t + 1) * si s ((q ++ [u]).getD (t + 1 - 1) 0) ((q ++ [u]).getD (t + 1) 0)) * sh G w o (t + 1) ((q ++ [u]).getD (t + 1) 0) = _
     rw [if_neg (by omega), hl, WL_app (by omega), show t + 1 - 1 = t by omega, getD_app (by omega)]
    rw [this]
   rw [a, sumR_pick _ hv]
   congr 1
   have qt := mem_getD qx (show t < q.length by omega)
   have b : sumR n (fun r => (if q.getD t 0 = r then WL G f s w o q (t + 1) else 0) * si s r v) = sumR n (fun r => if r = q.getD t 0 then WL G f s w o q (t + 1) * si s r v else 0) := by
    refine sumR_congr fun r hr => ?_
    by_cases c : r = q.getD t 0
    ·rw [if_pos c, if_pos c.symm]
    ·rw [if_neg c, if_neg (fun d => c d.symm)]; simp
   rw [b, sumR_pick _ qt]
  rw [lsum_congr e1, lsum_mul, lsum_swap]
  show _ = sumR n (fun u => FW G f s w o n t u * si s u v) * sh G w o (t + 1) v
  congr 1
  refine sumR_congr fun r hr => ?_
  rw [lsum_mul, <- acF_pth t r hr]
  rfl
theorem rWeight_spec (h : HV G f s w o n k F S W O) {p : List Nat} (hx : ∀ x ∈ p, x < n) {t : Nat} (ht : t < o.length) (hl : p.length = t + 1) {P O' : V} (hP : Zs P (IL p)) (hO : Zs O' (o.take (t + 1))) : Fn prog rWeight.f [hm G F S W, O', P] (.int (WL G f s w o p (t + 1))) := by
 have m1 : (hm G F S W).get 1 = F := rfl
 have m2 : (hm G F S W).get 2 = S := rfl
 obtain ⟨lf, ls, lw, lo⟩ := h.lens
 have h8 := h.so.l8
 have n4 := h.H.n4
 have pl := hP.len
 rw [show (IL p).length = t + 1 by unfold IL; simp [hl]] at pl
 have ol := hO.len
 rw [List.length_take, Nat.min_eq_left (by omega)] at ol
 have pa : ∀ i, i <= t -> (P.get (i : Int)).toI = (p.getD i 0 : Nat) := by
  intro i hi
  have : (IL p)[i]? = some ((p.getD i 0 : Nat) : Int) := by unfold IL; rw [List.getElem?_map, List.getElem?_eq_getElem (by omega)]; simp [show i < p.length by omega]
  exact hP.get this
 have oa : ∀ i, i <= t -> (O'.get (i : Int)).toI = o.getD i 0 := by
  intro i hi
  have : (o.take (t + 1))[i]? = some (o.getD i 0) := by rw [List.getElem?_take, if_pos (by omega), List.getElem?_eq_getElem (by omega)]; simp [show i < o.length by omega]
  exact hO.get this
 have loop : ∀ (q i : Nat) (i' a : Int), q + i = t + 1 -> i' = i -> a = WL G f s w o p i -> Comes rWeight.K rWeight.f rWeight.s1 ⟨[a, i'], [], [hm G F S W, O', P]⟩ (.int (WL G f s w o p (t + 1))) := by
  intro q
  induction q with
  | zero =>
   intro i i' a hq hi ha
   have : i = t + 1 := by omega
   subst hi ha this
   refine Comes.last progOk rWeight.p3 [] ?_ ?_
   ·simp only [HM, FT, IB, EvOk, E.b, E.i, E.v, Env.ext, evL]; rw [pl]; omega
   ·simp only [HM, FT, IB, EvOk, E.b, E.i, E.v, Env.ext, evL]
  | succ q ih =>
   intro i i' a hq hi ha
   subst hi ha
   have hit : i <= t := by omega
   have px := mem_getD hx (show i < p.length by omega)
   have sp := rShows_spec h (t := i) (by omega) px
   have nx := ih (i + 1) ((i : Int) + 1) _ (by omega) (by omega) rfl
   obtain ⟨w1, w2⟩ := h.H.wgt (o := o) hx (t := i) (by omega)
   obtain ⟨u1, u2⟩ := h.H.wgt (o := o) hx (t := i + 1) (by omega)
   have u3 := pow16 h.H.g1 h.H.g2 (m := 2 * (i + 1)) (by omega)
   by_cases h0 : i = 0
   ·subst h0
    have fi := h.fi px
    have p0 := pa 0 (by omega)
    have o0 := oa 0 (by omega)
    have e : f.getD (p.getD 0 0) 0 * sh G w o 0 (p.getD 0 0) = WL G f s w o p (0 + 1) := rfl
    have p0' : (P.get 0).toI = (p.getD 0 0 : Nat) := p0
    refine Comes.step progOk rWeight.p1 [.int (sh G w o 0 (p.getD 0 0))] ?_ ?_
    ·simp only [HM, FT, IB, EvOk, E.b, E.i, E.v, Env.ext, evL]; rw [m1, pl, ol, lf, p0', p0, o0, fi, e]
     exact ⟨by omega, by omega, by omega, by omega, by omega, by omega, sp, by omega, by omega⟩
    ·simp only [Sub.ev, E.v, E.i, Env.ext, List.map_cons, List.map_nil, evL]
     rw [m1, p0', fi, e]
     exact nx
   ·have px1 := mem_getD hx (show i - 1 < p.length by omega)
    have ei : (i : Int) - 1 = ((i - 1 : Nat) : Int) := by omega
    have pi := pa i hit
    have pi1 := pa (i - 1) (by omega)
    have oi := oa i hit
    obtain ⟨s1, s2⟩ := h.si (u := p.getD (i - 1) 0) (v := p.getD i 0) px1 px
    have e : WL G f s w o p i * si s (p.getD (i - 1) 0) (p.getD i 0) * sh G w o i (p.getD i 0) = WL G f s w o p (i + 1) := by
     show _ = (if i = 0 then _ else WL G f s w o p i * si s (p.getD (i - 1) 0) (p.getD i 0)) * _
     rw [if_neg h0]
    obtain ⟨a1, a2⟩ := h.H.si px1 (p.getD i 0)
    have m1' := Int.mul_nonneg w1 a1
    have m2' : WL G f s w o p i * si s (p.getD (i - 1) 0) (p.getD i 0) <= G ^ (2 * i) * G := Int.mul_le_mul w2 a2 a1 (by have := (pow12 h.H.g1 h.H.g2 (2 * i)).2; omega)
    have m3' := pow16 h.H.g1 h.H.g2 (m := 2 * i + 1) (by omega)
    rw [Int.pow_succ] at m3'
    refine Comes.step progOk rWeight.p2 [.int (sh G w o i (p.getD i 0))] ?_ ?_
    ·simp only [HM, FT, IB, EvOk, E.b, E.i, E.v, Env.ext, evL]; rw [m2, pl, ol, ei, pi1, pi, oi, ls, s2, s1, e]
     exact ⟨by omega, by omega, by omega, by omega, by omega, by omega, by omega, by omega, by omega, by omega, sp, by omega, by omega⟩
    ·simp only [Sub.ev, E.v, E.i, Env.ext, List.map_cons, List.map_nil, evL]
     rw [m2, ei, pi1, pi, s1, e]
     exact nx
 exact Fn.of (C := rWeight.K) rWeight.b (Comes.step progOk rWeight.p0 [] trivial (loop (t + 1) 0 0 1 (by omega) rfl rfl))
end
end X
namespace X
open Go Go.Abs Go.Sym
section
variable {G : Int} {f : List Int} {s w : List (List Int)} {o : List Int} {n k : Nat} {F S W O : V}
def gT (G : Int) (f : List Int) (s w : List (List Int)) (o : List Int) (n t : Nat) (row : Nat -> Int) (j v : Nat) : Int := if j < t then FW G f s w o n j v else if j = t then row v else 0
theorem gT_next {t j v : Nat} : gT G f s w o n t (FW G f s w o n t) j v = gT G f s w o n (t + 1) (fun _ => 0) j v := by
 unfold gT
 by_cases h1 : j < t
 ·rw [if_pos h1, if_pos (by omega)]
 ·by_cases h2 : j = t
  ·rw [if_neg h1, if_pos h2, if_pos (by omega), h2]
  ·rw [if_neg h1, if_neg h2, if_neg (by omega)]; split <;> rfl
theorem gT_put {t v : Nat} (row : Nat -> Int) (a : Int) (j u : Nat) : (if j = t /\ u = v then a else gT G f s w o n t row j u) = gT G f s w o n t (fun x => if x = v then a else row x) j u := by
 unfold gT
 by_cases h1 : j < t
 ·rw [if_neg (by omega), if_pos h1, if_pos h1]
 ·by_cases h2 : j = t
  ·rw [if_neg h1, if_neg h1, if_pos h2, if_pos h2]
   by_cases h3 : u = v
   ·simp only [if_pos (show j = t /\ u = v from ⟨h2, h3⟩), if_pos h3]
   ·simp only [if_neg (show ¬ (j = t /\ u = v) from fun c => h3 c.2), if_neg h3]
  ·rw [if_neg (fun c => h2 c.1), if_neg h1, if_neg h2, if_neg h1, if_neg h2]
theorem gT_at {t v : Nat} (row : Nat -> Int) : gT G f s w o n t row t v = row v := by unfold gT; rw [if_neg (by omega), if_pos rfl]
theorem gT_lo {t j v : Nat} (row : Nat -> Int) (h : j < t) : gT G f s w o n t row j v = FW G f s w o n j v := by unfold gT; rw [if_pos h]
theorem rForward_cell (h : HV G f s w o n k F S W O) {t : Nat} (ht : t < o.length) {P : V} (hP : Tab P ((pth n (t + 1)).map IL)) {i : Nat} {p : List Nat} (hi : (pth n (t + 1))[i]? = some p) (hlen : i < 1024) {Q : V -> Prop} {v2 v3 v4 out : V}
  (ho : TabF o.length n (gT G f s w o n t (acF G f s w o ((pth n (t + 1)).take i) t)) out)
  (nx : ∀ out', TabF o.length n (gT G f s w o n t (acF G f s w o ((pth n (t + 1)).take (i + 1)) t)) out' -> ∃ X, Q X /\ Comes rForward.K rForward.f rForward.s2 ⟨[(i : Int) + 1, (t : Int)], [], [hm G F S W, O, v2, v3, v4, out', P]⟩ X) :
  ∃ X, Q X /\ Comes rForward.K rForward.f rForward.s2 ⟨[(i : Int), (t : Int)], [], [hm G F S W, O, v2, v3, v4, out, P]⟩ X := by
 obtain ⟨lf, ls, lw, lo⟩ := h.lens
 have h8 := h.so.l8
 have n4 := h.H.n4
 obtain ⟨pl, px⟩ := pth_mem (List.mem_of_getElem? hi)
 have hil := (List.getElem?_eq_some_iff.1 hi).1
 have row := hP.row i (IL p) (by rw [List.getElem?_map, hi]; rfl)
 have rl := row.len
 rw [show (IL p).length = t + 1 by unfold IL; simp [pl]] at rl
 have pt := mem_getD px (show t < p.length by omega)
 have pa : ((P.get (i : Int)).get (t : Int)).toI = (p.getD t 0 : Nat) := by
  have : (IL p)[t]? = some ((p.getD t 0 : Nat) : Int) := by unfold IL; rw [List.getElem?_map, List.getElem?_eq_getElem (by omega)]; simp [show t < p.length by omega]
  exact row.get this
 have Pl := hP.lenI
 rw [List.length_map] at Pl
 have ol := ho.lenI
 have rol := ho.rl ht
 have old := ho.at ht pt
 rw [gT_at] at old
 have hO := h.O.sub ((t : Int) + 1)
 rw [show ((t : Int) + 1).toNat = t + 1 by omega] at hO
 have wsp := rWeight_spec h px ht pl row hO
 obtain ⟨w1, w2⟩ := h.H.wgt (o := o) px (t := t + 1) (by omega)
 -- bounds of the sums
 have nn : ∀ v, ∀ q ∈ pth n (t + 1), 0 <= (if q.getD t 0 = v then WL G f s w o q (t + 1) else 0) := by
  intro v q hq
  obtain ⟨ql, qx⟩ := pth_mem hq
  split
  ·exact (h.H.wgt (o := o) qx (t := t + 1) (by omega)).1
  ·exact Int.le_refl _
 have stepv : ∀ v, acF G f s w o ((pth n (t + 1)).take (i + 1)) t v = acF G f s w o ((pth n (t + 1)).take i) t v + (if p.getD t 0 = v then WL G f s w o p (t + 1) else 0) := fun v => lsum_take hi
 have le1 : acF G f s w o ((pth n (t + 1)).take (i + 1)) t (p.getD t 0) <= 184884258895036416 := by
  have a : acF G f s w o ((pth n (t + 1)).take (i + 1)) t (p.getD t 0) <= acF G f s w o (pth n (t + 1)) t (p.getD t 0) := lsum_take_le (nn _) _
  rw [acF_pth _ _ pt] at a
  have b := h.H.fw_le (o := o) (t := t) (by omega) pt
  omega
 have ge0 : 0 <= acF G f s w o ((pth n (t + 1)).take i) t (p.getD t 0) := lsum_nonneg fun q hq => nn _ q (List.mem_of_mem_take hq)
 have e := stepv (p.getD t 0)
 rw [if_pos rfl] at e
 have put := ho.put (v := p.getD t 0) ht (acF G f s w o ((pth n (t + 1)).take (i + 1)) t (p.getD t 0))
 have put2 : TabF o.length n (gT G f s w o n t (acF G f s w o ((pth n (t + 1)).take (i + 1)) t)) (out.set (t : Int) ((out.get (t : Int)).set ((p.getD t 0 : Nat) : Int) (.int (acF G f s w o ((pth n (t + 1)).take (i + 1)) t (p.getD t 0))))) := by
  refine put.congr fun j u hj hu => ?_
  rw [gT_put]
  unfold gT
  by_cases h1 : j < t
  ·rw [if_pos h1, if_pos h1]
  ·by_cases h2 : j = t
   ·rw [if_neg h1, if_pos h2, if_neg h1, if_pos h2]
    by_cases h3 : u = p.getD t 0
    ·subst h3; exact if_pos rfl
    ·simp only [if_neg h3]; rw [stepv u, if_neg (fun c => h3 c.symm)]; omega
   ·rw [if_neg h1, if_neg h2, if_neg h1, if_neg h2]
 obtain ⟨X, qX, k1⟩ := nx _ put2
 refine ⟨X, qX, Comes.step progOk rForward.p4 [.int (WL G f s w o p (t + 1))] ?_ ?_⟩
 ·simp only [HM, FT, IB, EvOk, E.b, E.i, E.v, Env.ext, evL]; rw [Pl, rl, ol, pa, rol, lo, old, <- e]
  exact ⟨by omega, by omega, by omega, by omega, by omega, by omega, by omega, by omega, by omega, by omega, by omega, by omega, by omega, by omega, wsp, by omega, by omega, by omega, by omega, by omega, by omega, by omega⟩
 ·simp only [Sub.ev, E.v, E.i, Env.ext, List.map_cons, List.map_nil, evL]
  rw [pa, old, <- e]
  exact k1
end
end X
namespace X
open Go Go.Abs Go.Sym
section
variable {G : Int} {f : List Int} {s w : List (List Int)} {o : List Int} {n k : Nat} {F S W O : V}
def rowU (g : Nat -> Int) (v : Nat) (part : Int) (x : Nat) : Int := if x < v then g x else if x = v then part else 0
theorem rowU_at (g : Nat -> Int) (v : Nat) (part : Int) : rowU g v part v = part := by unfold rowU; rw [if_neg (by omega), if_pos rfl]
theorem rowU_put (g : Nat -> Int) (v : Nat) (a b : Int) (x : Nat) : (if x = v then b else rowU g v a x) = rowU g v b x := by
 unfold rowU
 by_cases h : x = v
 ·rw [if_pos h, if_neg (by omega), if_pos h]
 ·rw [if_neg h, if_neg h, if_neg h]
theorem rowU_next (g : Nat -> Int) (v x : Nat) : rowU g v (g v) x = rowU g (v + 1) 0 x := by
 unfold rowU
 by_cases h : x < v
 ·rw [if_pos h, if_pos (by omega)]
 ·by_cases h2 : x = v
  ·rw [if_neg h, if_pos h2, if_pos (by omega), h2]
  ·rw [if_neg h, if_neg h2, if_neg (by omega)]; split <;> rfl
theorem gT_row {t : Nat} {a b : Nat -> Int} (e : ∀ v, v < n -> a v = b v) (j u : Nat) (hu : u < n) : gT G f s w o n t a j u = gT G f s w o n t b j u := by
 unfold gT; split
 ·rfl
 ·split
  ·exact e u hu
  ·rfl
theorem rForward_state (h : HV G f s w o n k F S W O) {t v : Nat} (ht : t < o.length) (ht1 : 1 <= t) (hv : v < n) {Q : V -> Prop} {v2 v3 : V}
  (nx : ∀ out', TabF o.length n (gT G f s w o n t (rowU (FW G f s w o n t) (v + 1) 0)) out' -> ∃ X, Q X /\ Comes rForward.K rForward.f rForward.s3 ⟨[(t : Int), (v : Int) + 1], [], [hm G F S W, O, v2, v3, out']⟩ X) :
  ∀ (q u : Nat) (u' : Int) (out : V), q + u = n -> u' = u -> TabF o.length n (gT G f s w o n t (rowU (FW G f s w o n t) v (sumR u (fun u => FW G f s w o n (t - 1) u * si s u v * sh G w o t v)))) out ->
   ∃ X, Q X /\ Comes rForward.K rForward.f rForward.s4 ⟨[u', (t : Int), (v : Int)], [], [hm G F S W, O, v2, v3, out]⟩ X := by
 have m1 : (hm G F S W).get 1 = F := rfl
 have m2 : (hm G F S W).get 2 = S := rfl
 obtain ⟨lf, ls, lw, lo⟩ := h.lens
 have h8 := h.so.l8
 have n4 := h.H.n4
 have e1 : sumR n (fun u => FW G f s w o n (t - 1) u * si s u v * sh G w o t v) = FW G f s w o n t v := by
  rw [sumR_mul]
  conv => rhs; rw [show t = (t - 1) + 1 by omega]
  show _ = sumR n (fun u => FW G f s w o n (t - 1) u * si s u v) * sh G w o (t - 1 + 1) v
  rw [show t - 1 + 1 = t by omega]
 have nn : ∀ u, u < n -> 0 <= FW G f s w o n (t - 1) u * si s u v * sh G w o t v := fun u hu => Int.mul_nonneg (Int.mul_nonneg (h.H.fw_nonneg _ u hu) (h.H.si hu v).1) (h.H.sh _ hv).1
 have fle := h.H.fw_le (o := o) (t := t) (by omega) hv
 have pre := h.H.fw_pre (o := o) (t := t - 1) (v := v) (by omega) hv
 have nnp : ∀ u, u < n -> 0 <= FW G f s w o n (t - 1) u * si s u v := fun u hu => Int.mul_nonneg (h.H.fw_nonneg _ u hu) (h.H.si hu v).1
 have et : (t : Int) - 1 = ((t - 1 : Nat) : Int) := by omega
 intro q
 induction q with
 | zero =>
  intro u u' out hq hu ho
  have : u = n := by omega
  subst hu this
  rw [e1] at ho
  have ho2 := ho.congr (g' := gT G f s w o u t (rowU (FW G f s w o u t) (v + 1) 0)) fun j x hj hx => gT_row (fun y _ => rowU_next _ v y) j x hx
  obtain ⟨X, qX, k1⟩ := nx out ho2
  refine ⟨X, qX, Comes.step progOk rForward.p9 [] ?_ k1⟩
  simp only [HM, FT, IB, EvOk, E.b, E.i, E.v, Env.ext, evL]; rw [m1, lf]; omega
 | succ q ih =>
  intro u u' out hq hu ho
  subst hu
  have hun : u < n := by omega
  have ol := ho.lenI
  have rol := ho.rl ht
  have rol1 := ho.rl (j := t - 1) (by omega)
  have old := ho.at ht hv
  rw [gT_at, rowU_at] at old
  have at1 := ho.at (j := t - 1) (v := u) (by omega) hun
  rw [gT_lo _ (by omega)] at at1
  obtain ⟨s1, s2⟩ := h.si (u := u) (v := v) hun hv
  have sp := rShows_spec h (t := t) (v := v) ht hv
  have oa : (O.get (t : Int)).toI = o.getD t 0 := (h.ox ht).1
  have mono := sumR_mono (g := fun u => FW G f s w o n (t - 1) u * si s u v * sh G w o t v) (m := u + 1) (n := n) (by omega) nn
  rw [sumR_succ, e1] at mono
  have p0 := sumR_nonneg (n := u) (g := fun u => FW G f s w o n (t - 1) u * si s u v * sh G w o t v) fun i hi => nn i (by omega)
  have p1 := nn u hun
  have p2 := nnp u hun
  have p3 := sumR_one (g := fun u => FW G f s w o n (t - 1) u * si s u v) hun nnp
  have es := sumR_succ u (fun u => FW G f s w o n (t - 1) u * si s u v * sh G w o t v)
  have put := (ho.put (v := v) ht (sumR (u + 1) (fun u => FW G f s w o n (t - 1) u * si s u v * sh G w o t v))).congr (g' := gT G f s w o n t (rowU (FW G f s w o n t) v (sumR (u + 1) (fun u => FW G f s w o n (t - 1) u * si s u v * sh G w o t v)))) fun j x hj hx => by
   rw [gT_put]; exact gT_row (fun y _ => rowU_put _ v _ _ y) j x hx
  obtain ⟨X, qX, k1⟩ := ih (u + 1) ((u : Int) + 1) _ (by omega) (by omega) put
  refine ⟨X, qX, Comes.step progOk rForward.p8 [.int (sh G w o t v)] ?_ ?_⟩
  ·simp only [HM, FT, IB, EvOk, E.b, E.i, E.v, Env.ext, evL]; rw [m1, m2, lf, ls, lo, ol, et, rol, rol1, old, at1, s1, s2, oa]
   generalize FW G f s w o n (t - 1) u * si s u v = y at *
   generalize y * sh G w o t v = z at *
   exact ⟨by omega, by omega, by omega, by omega, by omega, by omega, by omega, by omega, by omega, by omega, by omega, by omega, by omega, by omega, by omega, by omega, by omega, by omega, by omega, sp, by omega, by omega, by omega, by omega, by omega, by omega, by omega, by omega, by omega, by omega⟩
  ·simp only [Sub.ev, E.v, E.i, Env.ext, List.map_cons, List.map_nil, evL]
   rw [m2, et, old, at1, s1, <- es]
   exact k1
theorem rForward_spec (h : HV G f s w o n k F S W O) : ∃ X, Tab X ((List.range o.length).map (fwR G f s w o n)) /\ Fn prog rForward.f [hm G F S W, O] X := by
 have m1 : (hm G F S W).get 1 = F := rfl
 obtain ⟨lf, ls, lw, lo⟩ := h.lens
 have h8 := h.so.l8
 have n1 := h.H.n1
 have n4 := h.H.n4
 obtain ⟨Z, z1, z2⟩ := rzeros_spec h (m := o.length) h8
 have loop : ∀ (q t : Nat) (t' : Int) (out : V), q + t = o.length -> t' = t -> TabF o.length n (gT G f s w o n t (fun _ => 0)) out -> ∃ X, Tab X ((List.range o.length).map (fwR G f s w o n)) /\ Comes rForward.K rForward.f rForward.s1 ⟨[t'], [], [hm G F S W, O, Z, out]⟩ X := by
  intro q
  induction q with
  | zero =>
   intro t t' out hq ht ho
   have : t = o.length := by omega
   subst ht this
   have ho2 := ho.congr (g' := FW G f s w o n) fun j u hj hu => gT_lo _ hj
   refine ⟨out, ho2.tab, Comes.last progOk rForward.p3 [] ?_ ?_⟩
   ·simp only [HM, FT, IB, EvOk, E.b, E.i, E.v, Env.ext, evL]; rw [lo]; omega
   ·simp only [HM, FT, IB, EvOk, E.b, E.i, E.v, Env.ext, evL]
  | succ q ih =>
   intro t t' out hq ht ho
   subst ht
   have hto : t < o.length := by omega
   have sp := rshort_spec h (m := t + 1) (by omega)
   rw [Int.natCast_add] at sp
   by_cases hp : n ^ (t + 1) <= 1024
   ·rw [decide_eq_true hp] at sp
    obtain ⟨P, P1, P2⟩ := rPaths_spec h (m := t + 1) (by omega) hp
    rw [Int.natCast_add] at P2
    have Pl := P1.lenI
    rw [List.length_map, pth_len] at Pl
    have nx1 : ∀ out1, TabF o.length n (gT G f s w o n t (acF G f s w o (pth n (t + 1)) t)) out1 -> ∃ X, Tab X ((List.range o.length).map (fwR G f s w o n)) /\ Comes rForward.K rForward.f rForward.s1 ⟨[(t : Int) + 1], [], [hm G F S W, O, Z, out1]⟩ X := by
     intro out1 h1
     refine ih (t + 1) ((t : Int) + 1) out1 (by omega) (by omega) (h1.congr fun j u hj hu => ?_)
     rw [gT_row (fun v hv => acF_pth t v hv) j u hu, gT_next]
    have inner : ∀ (a i : Nat) (i' : Int) (out1 : V), a + i = n ^ (t + 1) -> i' = i -> TabF o.length n (gT G f s w o n t (acF G f s w o ((pth n (t + 1)).take i) t)) out1 -> ∃ X, Tab X ((List.range o.length).map (fwR G f s w o n)) /\ Comes rForward.K rForward.f rForward.s2 ⟨[i', (t : Int)], [], [hm G F S W, O, Z, out, .bool true, out1, P]⟩ X := by
     intro a
     induction a with
     | zero =>
      intro i i' out1 ha hi h1
      subst hi
      rw [List.take_of_length_le (by rw [pth_len]; omega)] at h1
      obtain ⟨X, qX, k1⟩ := nx1 out1 h1
      refine ⟨X, qX, Comes.step progOk rForward.p5 [] ?_ k1⟩
      simp only [HM, FT, IB, EvOk, E.b, E.i, E.v, Env.ext, evL]; rw [Pl]; omega
     | succ a iha =>
      intro i i' out1 ha hi h1
      subst hi
      obtain ⟨p, hpi⟩ : ∃ p, (pth n (t + 1))[i]? = some p := ⟨_, List.getElem?_eq_getElem (by rw [pth_len]; omega)⟩
      exact rForward_cell h hto P1 hpi (by omega) (Q := fun X => Tab X ((List.range o.length).map (fwR G f s w o n))) h1 fun out2 h2 => iha (i + 1) ((i : Int) + 1) out2 (by omega) (by omega) h2
    obtain ⟨X, qX, k1⟩ := inner (n ^ (t + 1)) 0 0 out (by omega) rfl (by
     refine ho.congr fun j u hj hu => gT_row (fun v hv => ?_) j u hu
     rw [List.take_zero]; rfl)
    refine ⟨X, qX, Comes.step progOk rForward.p1 [.bool true, P] ?_ k1⟩
    simp only [HM, FT, IB, EvOk, E.b, E.i, E.v, Env.ext, evL]; rw [lo]
    exact ⟨by omega, by omega, sp, by omega, P2⟩
   ·rw [decide_eq_false hp] at sp
    have ht1 : 1 <= t := by
     by_cases c : t = 0
     ·subst c
      rw [show 0 + 1 = 1 from rfl, Nat.pow_one] at hp
      omega
     ·omega
    have rows : ∀ (a v : Nat) (v' : Int) (out1 : V), a + v = n -> v' = v -> TabF o.length n (gT G f s w o n t (rowU (FW G f s w o n t) v 0)) out1 -> ∃ X, Tab X ((List.range o.length).map (fwR G f s w o n)) /\ Comes rForward.K rForward.f rForward.s3 ⟨[(t : Int), v'], [], [hm G F S W, O, Z, out, out1]⟩ X := by
     intro a
     induction a with
     | zero =>
      intro v v' out1 ha hv h1
      have : v = n := by omega
      subst hv this
      obtain ⟨X, qX, k1⟩ := ih (t + 1) ((t : Int) + 1) out1 (by omega) (by omega) (h1.congr fun j u hj hu => by
       rw [gT_row (b := FW G f s w o v t) (fun y hy => by unfold rowU; rw [if_pos hy]) j u hu, gT_next])
      refine ⟨X, qX, Comes.step progOk rForward.p7 [] ?_ k1⟩
      simp only [HM, FT, IB, EvOk, E.b, E.i, E.v, Env.ext, evL]; rw [m1, lf]; omega
     | succ a iha =>
      intro v v' out1 ha hv h1
      subst hv
      obtain ⟨X, qX, k1⟩ := rForward_state h hto ht1 (v := v) (by omega) (Q := fun X => Tab X ((List.range o.length).map (fwR G f s w o n))) (v2 := Z) (v3 := out) (fun out2 h2 => iha (v + 1) ((v : Int) + 1) out2 (by omega) (by omega) h2) n 0 0 out1 (by omega) rfl h1
      refine ⟨X, qX, Comes.step progOk rForward.p6 [] ?_ k1⟩
      simp only [HM, FT, IB, EvOk, E.b, E.i, E.v, Env.ext, evL]; rw [m1, lf]; omega
    obtain ⟨X, qX, k1⟩ := rows n 0 0 out (by omega) rfl (by
     refine ho.congr fun j u hj hu => gT_row (fun v hv => ?_) j u hu
     unfold rowU; rw [if_neg (by omega)]; split <;> rfl)
    refine ⟨X, qX, Comes.step progOk rForward.p2 [.bool false] ?_ k1⟩
    simp only [HM, FT, IB, EvOk, E.b, E.i, E.v, Env.ext, evL]; rw [lo]
    exact ⟨by omega, by omega, sp⟩
 obtain ⟨X, q1, q2⟩ := loop o.length 0 0 Z (by omega) rfl (z1.congr fun j u hj hu => by unfold gT; rw [if_neg (by omega)]; split <;> rfl)
 refine ⟨X, q1, Fn.of (C := rForward.K) rForward.b (Comes.step progOk rForward.p0 [Z] ?_ q2)⟩
 simp only [HM, FT, IB, EvOk, E.b, E.i, E.v, Env.ext, evL]; rw [lo]; exact z2
end
end X
namespace X
open Go Go.Abs Go.Sym
def pthC (n : Nat) : Nat -> List (List Nat)
 | 0 => [[]]
 | m + 1 => (List.range n).flatMap fun x => (pthC n m).map (x :: ·)
section
variable (G : Int) (s w : List (List Int)) (o : List Int)
def BP (a t : Nat) : List Nat -> Int
 | [] => 1
 | x :: p => si s a x * sh G w o t x * BP x (t + 1) p
end
section
variable {G : Int} {f : List Int} {s w : List (List Int)} {o : List Int} {n k : Nat} {F S W O : V}
def gB (G : Int) (s w : List (List Int)) (o : List Int) (n t : Nat) (row : Nat -> Int) (j v : Nat) : Int := if t < j then BT G s w o n j v else if j = t then row v else 0
end
end X
namespace X
open Go Go.Abs Go.Sym
section
variable {G : Int} {f : List Int} {s w : List (List Int)} {o : List Int} {n k : Nat} {F S W O : V}
end
end X
namespace X
open Go Go.Abs Go.Sym
section
variable {G : Int} {f : List Int} {s w : List (List Int)} {o : List Int} {F S W O : V}
theorem min10 {x : V} {n : Nat} (h : x.len = n) : minI x.len 10 = ((min n 10 : Nat) : Int) := by
 rw [h]; unfold minI; split <;> omega
theorem cut10 {R : V} {o : List Int} (h : Zs R o) : Zs (R.sub 0 (minI R.len 10)) (o.take (min o.length 10)) /\ (o.take (min o.length 10)).length <= 10 := by
 have := h.sub ((min o.length 10 : Nat) : Int)
 rw [Int.toNat_natCast] at this
 rw [min10 h.len]
 exact ⟨this, by rw [List.length_take]; omega⟩
inductive TabsR (G : Int) (F S W O : V) : Prop
 | bad {c : Int} : c ≠ 0 -> Fn prog hForward.f [hm G F S W, O] (.list [.nil, .int c]) -> Fn prog hBackward.f [hm G F S W, O] (.list [.nil, .int c]) -> Fn prog rErrors.f [hm G F S W, O] (.int c) -> TabsR G F S W O
 | ok {X Y X' Y' : V} : Fn prog hForward.f [hm G F S W, O] (.list [X, .int 0]) -> Fn prog hBackward.f [hm G F S W, O] (.list [Y, .int 0]) -> Fn prog rErrors.f [hm G F S W, O] (.int 0) -> Fn prog rForward.f [hm G F S W, O] X' -> Fn prog SameTable.f [X, X'] (.bool true) -> Fn prog rBackward.f [hm G F S W, O] Y' -> Fn prog SameTable.f [Y, Y'] (.bool true) -> TabsR G F S W O
end
end X
namespace X
open Go Go.Abs Go.Sym
section
variable {G : Int} {f : List Int} {s w : List (List Int)} {o : List Int} {n k : Nat} {F S W O : V}
theorem rAll_spec (h : HV G f s w o n k F S W O) : Fn prog rAll.f [hm G F S W, O] (.int (X.tot G f s w o n)) := by
 obtain ⟨Y, y1, y2⟩ := rForward_spec h
 have h8 := h.so.l8
 have l1 := h.so.l1
 have n4 := h.H.n4
 have yl := tab_len y1
 have e1 : (o.length : Int) - 1 = ((o.length - 1 : Nat) : Int) := by omega
 have hz := row_at y1 (t := o.length - 1) (by omega)
 have tt := rTotal_spec (l := fwR G f s w o n (o.length - 1)) hz (by rw [rowR_len]; omega) (fun i hi => by rw [rowR_len] at hi; rw [fwR_getD hi]; exact h.H.fw_nonneg _ i hi) h.tot.2
 refine Fn.of (C := rAll.K) rAll.b (Comes.last progOk rAll.p0 [Y, .int (X.tot G f s w o n)] ?_ rfl)
 simp only [HM, FT, IB, EvOk, E.b, E.i, E.v, Env.ext, evL]; rw [yl, e1]
 exact ⟨y2, by omega, by omega, tt⟩
theorem rerr0 (h : HV G f s w o n k F S W O) : Fn prog rErrors.f [hm G F S W, O] (.int 0) := by
 have := rErrors_spec h.mod h.O (by have := h.so.l8; omega)
 rwa [h.code] at this
theorem fw_shared (h : HV G f s w o n k F S W O) (h0 : ¬ X.tot G f s w o n = 0) {t : Nat} (ht : t < o.length) {x : V} (hx : Zs x (fwR G f s w o n t)) : Fn prog rShared.f [x] (shr (fwR G f s w o n t) (sumR n (FW G f s w o n t))) := by
 have h8 := h.so.l8
 have n4 := h.H.n4
 exact rShared_spec (l := fwR G f s w o n t) hx (by rw [rowR_len]; omega) (fun i hi => by rw [rowR_len] at hi; rw [fwR_getD hi]; exact h.H.fw_nonneg _ i hi) (h.H.fw_tot (by omega)) (h.fw_pos h0 ht)
end
end X
namespace X
open Go Go.Abs Go.Sym
theorem sameQ_refl (a : V) (h : a.len <= 1000) : Fn prog SameQ.f [a, a] (.bool true) := by
 obtain ⟨m, hm⟩ : ∃ m : Nat, a.len = m := ⟨a.els.length, rfl⟩
 rw [hm] at h
 have loop : ∀ (t i : Nat) (i' : Int), t + i = m -> i' = i -> Comes SameQ.K SameQ.f SameQ.s1 ⟨[i'], [], [a, a]⟩ (.bool true) := by
  intro t
  induction t with
  | zero =>
   intro i i' ht hi
   subst hi
   refine Comes.last progOk SameQ.p4 [] ?_ rfl
   simp only [HM, FT, IB, EvOk, E.b, E.i, E.v, Env.ext, evL]; rw [hm]; omega
  | succ t ih =>
   intro i i' ht hi
   subst hi
   refine Comes.step progOk SameQ.p3 [] ?_ (ih (i + 1) ((i : Int) + 1) (by omega) (by omega))
   simp only [HM, FT, IB, EvOk, E.b, E.i, E.v, Env.ext, evL]; rw [hm]; omega
 refine Fn.of (C := SameQ.K) SameQ.b (Comes.step progOk SameQ.p1 [] ?_ (loop m 0 0 (by omega) rfl))
 simp only [HM, FT, IB, EvOk, E.b, E.i, E.v, Env.ext, evL]
section
variable {G : Int} {f : List Int} {s w : List (List Int)} {o : List Int} {n k : Nat} {F S W O : V}
structure KnowsR (G : Int) (F S W O p e l g m j : V) : Prop where
 p1 : Fn prog hProb.f [hm G F S W, O] (.list [p, e])
 p2 : Fn prog rProb.f [hm G F S W, O] (.list [p, e])
 f1 : Fn prog hFilter.f [hm G F S W, O] (.list [l, g])
 f2 : Fn prog rFilter.f [hm G F S W, O] (.list [l, g])
 s1 : Fn prog hSmooth.f [hm G F S W, O] (.list [m, j])
 s2 : Fn prog rSmooth.f [hm G F S W, O] (.list [m, j])
 q1 : Fn prog SameQs.f [l, l] (.bool true)
 q2 : Fn prog SameQs.f [m, m] (.bool true)
end
end X
namespace X
open Go Go.Abs Go.Sym
theorem more_snoc (o : List Int) (j : Nat) : more o j ++ [-1] = more o (j + 1) := by
 unfold more; rw [List.append_assoc, List.replicate_succ']
section
variable {G : Int} {f : List Int} {s w : List (List Int)} {o : List Int} {n k : Nat} {F S W O : V}
theorem rPredict_ok (h : HV G f s w o n k F S W O) (h0 : ¬ X.tot G f s w o n = 0) {m : Nat} (hm8 : o.length + m <= 8) : Fn prog rPredict.f [hm G F S W, O, .int m] (.list [prV G f s w o n m, .int 0]) := by
 obtain ⟨lf, ls, lw, lo⟩ := h.lens
 have l1 := h.so.l1
 have loop : ∀ (q j : Nat) (j' : Int) (O' : V), q + j = m -> j' = j -> Zs O' (more o j) -> Comes rPredict.K rPredict.f rPredict.s1 ⟨[j'], [], [hm G F S W, O, .int m, .int 0, .int (X.tot G f s w o n), O']⟩ (.list [prV G f s w o n m, .int 0]) := by
  intro q
  induction q with
  | zero =>
   intro j j' O' hq hj hz
   have : j = m := by omega
   subst hj this
   have hv2 := h.more hm8 hz
   have ht2 := more_tot h h0 (j := j)
   obtain ⟨Y, y1, y2⟩ := rForward_spec hv2
   have yl := tab_len y1
   have ml := more_len o j
   have e1 : ((more o j).length : Int) - 1 = (((more o j).length - 1 : Nat) : Int) := by omega
   have sh' := fw_shared hv2 ht2 (t := (more o j).length - 1) (by omega) (row_at y1 (by omega))
   rw [<- predict_more h h0 hm8] at sh'
   refine Comes.last progOk rPredict.p6 [Y, prV G f s w o n j] ?_ rfl
   simp only [HM, FT, IB, EvOk, E.b, E.i, E.v, Env.ext, evL]; rw [yl, e1]
   exact ⟨by omega, y2, by omega, by omega, sh'⟩
  | succ q ih =>
   intro j j' O' hq hj hz
   subst hj
   have lO := hz.len
   rw [more_len] at lO
   have hz2 := hz.snoc (-1)
   rw [more_snoc] at hz2
   refine Comes.step progOk rPredict.p5 [] ?_ (ih (j + 1) ((j : Int) + 1) _ (by omega) (by omega) hz2)
   simp only [HM, FT, IB, EvOk, E.b, E.i, E.v, Env.ext, evL]; rw [lO]; omega
 refine Fn.of (C := rPredict.K) rPredict.b (Comes.step progOk rPredict.p4 [.int 0, .int (X.tot G f s w o n)] ?_ (loop m 0 0 _ (by omega) rfl (show Zs (V.app .nil O) (more o 0) by unfold more; simpa using h.O.copy)))
 simp only [HM, FT, IB, EvOk, E.b, E.i, E.v, Env.ext, evL]; rw [lo]
 exact ⟨rerr0 h, by omega, by omega, by omega, rAll_spec h, h0, by omega⟩
theorem rPredict_zero (h : HV G f s w o n k F S W O) (h0 : X.tot G f s w o n = 0) {m : Int} (h1 : 0 <= m) (h2 : m <= 8 - o.length) : Fn prog rPredict.f [hm G F S W, O, .int m] (.list [.nil, .int 7]) := by
 obtain ⟨lf, ls, lw, lo⟩ := h.lens
 have l8 := h.so.l8
 have a := rAll_spec h
 rw [h0] at a
 refine Fn.of (C := rPredict.K) rPredict.b (Comes.last progOk rPredict.p3 [.int 0, .int 0] ?_ rfl)
 simp only [HM, FT, IB, EvOk, E.b, E.i, E.v, Env.ext, evL]; rw [lo]
 exact ⟨rerr0 h, by omega, by omega, by omega, a⟩
theorem rPredict_arg (h : HV G f s w o n k F S W O) {m : Int} (hm' : m < 0 \/ 8 - (o.length : Int) < m) : Fn prog rPredict.f [hm G F S W, O, .int m] (.list [.nil, .int 2]) := by
 obtain ⟨lf, ls, lw, lo⟩ := h.lens
 have l8 := h.so.l8
 by_cases q : m < 0
 ·refine Fn.of (C := rPredict.K) rPredict.b (Comes.last progOk rPredict.p1 [.int 0] ?_ rfl)
  simp only [HM, FT, IB, EvOk, E.b, E.i, E.v, Env.ext, evL]
  exact ⟨rerr0 h, q⟩
 ·refine Fn.of (C := rPredict.K) rPredict.b (Comes.last progOk rPredict.p2 [.int 0] ?_ rfl)
  simp only [HM, FT, IB, EvOk, E.b, E.i, E.v, Env.ext, evL]
  rw [lo]
  exact ⟨rerr0 h, by omega, by omega, by omega⟩
theorem rPredict_bad (M : HMod G F S W f s w) (hO : Zs O o) (hl : o.length <= 10) (h : ¬ code17 G f s w o = 0) (m : Int) : Fn prog rPredict.f [hm G F S W, O, .int m] (.list [.nil, .int (code17 G f s w o)]) := by
 refine Fn.of (C := rPredict.K) rPredict.b (Comes.last progOk rPredict.p0 [.int (code17 G f s w o)] ?_ rfl)
 simp only [HM, FT, IB, EvOk, E.b, E.i, E.v, Env.ext, evL]
 exact ⟨rErrors_spec M hO hl, h⟩
theorem predsR (M : HMod G F S W f s w) (hO : Zs O o) (hl : o.length <= 10) (m : Int) : ∃ l e, Fn prog hPredict.f [hm G F S W, O, .int m] (.list [l, e]) /\ Fn prog rPredict.f [hm G F S W, O, .int m] (.list [l, e]) /\ Fn prog SameQ.f [l, l] (.bool true) := by
 have nil1 : Fn prog SameQ.f [.nil, .nil] (.bool true) := sameQ_refl .nil (by simp [V.len, V.els])
 by_cases c : code17 G f s w o = 0
 ·obtain ⟨n, k, h⟩ := code0 M hO c
  have n4 := h.H.n4
  have l8 := h.so.l8
  by_cases hm' : m < 0 \/ 8 - (o.length : Int) < m
  ·exact ⟨_, _, hPredict_arg h hm', rPredict_arg h hm', nil1⟩
  ·by_cases h0 : tot G f s w o n = 0
   ·exact ⟨_, _, hPredict_zero h h0 (by omega) (by omega), rPredict_zero h h0 (by omega) (by omega), nil1⟩
   ·obtain ⟨x, rfl⟩ : ∃ x : Nat, m = x := ⟨m.toNat, by omega⟩
    exact ⟨_, _, hPredict_ok h h0 (by omega), rPredict_ok h h0 (by omega), sameQ_refl _ (by unfold prV; rw [shr_len, rowR_len]; omega)⟩
 ·exact ⟨_, _, hPredict_bad M hO hl c m, rPredict_bad M hO hl c m, nil1⟩
theorem preds_seen (M : HMod G F S W f s w) (hO : Zs O o) (hl : o.length <= 10) {v0 v1 v2 v3 v5 v6 v7 r : V} {N b j : Int} (hb : 0 <= b) (hb2 : b < 2)
  (nx : Comes HiddenPredicts.K HiddenPredicts.f HiddenPredicts.s2 ⟨[b + 1, G, j], [], [v0, v1, v2, v3, .int N, v5, v6, v7, F, S, W]⟩ r) :
  Comes HiddenPredicts.K HiddenPredicts.f HiddenPredicts.s3 ⟨[0, b, G, j], [], [v0, v1, v2, v3, .int N, v5, v6, v7, O, F, S, W]⟩ r := by
 have n4 : Comes HiddenPredicts.K HiddenPredicts.f HiddenPredicts.s3 ⟨[4, b, G, j], [], [v0, v1, v2, v3, .int N, v5, v6, v7, O, F, S, W]⟩ r := by
  refine Comes.step progOk HiddenPredicts.p21 [] ?_ nx
  simp only [HM, FT, IB, EvOk, E.b, E.i, E.v, Env.ext, evL]; omega
 have n3 : Comes HiddenPredicts.K HiddenPredicts.f HiddenPredicts.s3 ⟨[3, b, G, j], [], [v0, v1, v2, v3, .int N, v5, v6, v7, O, F, S, W]⟩ r := by
  obtain ⟨l, e, p1, p2, p3⟩ := predsR M hO hl (maxI N 9)
  refine Comes.step progOk HiddenPredicts.p20 [.list [l, e], .list [l, e], .bool true] ?_ n4
  simp only [HM, FT, IB, EvOk, E.b, E.i, E.v, Env.ext, evL]
  exact ⟨by omega, by omega, by omega, by omega, p1, p2, p3⟩
 have n2 : Comes HiddenPredicts.K HiddenPredicts.f HiddenPredicts.s3 ⟨[2, b, G, j], [], [v0, v1, v2, v3, .int N, v5, v6, v7, O, F, S, W]⟩ r := by
  obtain ⟨l, e, p1, p2, p3⟩ := predsR M hO hl (minI N (-1))
  refine Comes.step progOk HiddenPredicts.p17 [.list [l, e], .list [l, e], .bool true] ?_ n3
  simp only [HM, FT, IB, EvOk, E.b, E.i, E.v, Env.ext, evL]
  exact ⟨by omega, by omega, by omega, p1, p2, p3⟩
 have n1 : Comes HiddenPredicts.K HiddenPredicts.f HiddenPredicts.s3 ⟨[1, b, G, j], [], [v0, v1, v2, v3, .int N, v5, v6, v7, O, F, S, W]⟩ r := by
  obtain ⟨l, e, p1, p2, p3⟩ := predsR M hO hl (N.tmod 9)
  refine Comes.step progOk HiddenPredicts.p14 [.list [l, e], .list [l, e], .bool true] ?_ n2
  simp only [HM, FT, IB, EvOk, E.b, E.i, E.v, Env.ext, evL]
  exact ⟨by omega, by omega, p1, p2, p3⟩
 obtain ⟨l, e, p1, p2, p3⟩ := predsR M hO hl N
 refine Comes.step progOk HiddenPredicts.p11 [.list [l, e], .list [l, e], .bool true] ?_ n1
 simp only [HM, FT, IB, EvOk, E.b, E.i, E.v, Env.ext, evL]
 exact ⟨by omega, p1, p2, p3⟩
theorem preds_chain (M : HMod G F S W f s w) {O1 R : V} {o1 o2 : List Int} (h1 : Zs O1 o1) (hl1 : o1.length <= 10) (h2 : Zs R o2) {v0 v1 v2 v5 v6 r : V} {N j : Int} (hj : 0 <= j) (hj3 : j < 3)
  (nx : Comes HiddenPredicts.K HiddenPredicts.f HiddenPredicts.s1 ⟨[j + 1], [], [v0, v1, v2, R, .int N, v5, v6]⟩ r) :
  Comes HiddenPredicts.K HiddenPredicts.f HiddenPredicts.s2 ⟨[0, G, j], [], [v0, v1, v2, R, .int N, v5, v6, O1, F, S, W]⟩ r := by
 obtain ⟨c1, c2⟩ := cut10 h2
 have n2 : Comes HiddenPredicts.K HiddenPredicts.f HiddenPredicts.s2 ⟨[2, G, j], [], [v0, v1, v2, R, .int N, v5, v6, O1, F, S, W]⟩ r := by
  refine Comes.step progOk HiddenPredicts.p8 [] ?_ nx
  simp only [HM, FT, IB, EvOk, E.b, E.i, E.v, Env.ext, evL]; omega
 have n1 : Comes HiddenPredicts.K HiddenPredicts.f HiddenPredicts.s2 ⟨[1, G, j], [], [v0, v1, v2, R, .int N, v5, v6, O1, F, S, W]⟩ r := by
  refine Comes.step progOk HiddenPredicts.p7 [] ?_ (preds_seen M c1 c2 (b := 1) (by omega) (by omega) n2)
  simp only [HM, FT, IB, EvOk, E.b, E.i, E.v, Env.ext, evL]; omega
 refine Comes.step progOk HiddenPredicts.p6 [] ?_ (preds_seen M h1 hl1 (b := 0) (by omega) (by omega) n1)
 simp only [HM, FT, IB, EvOk, E.b, E.i, E.v, Env.ext, evL]; omega
theorem HiddenPredicts_spec (wk : Sym.Fn prog 10 [] (.bool true)) {D : V} {g n k : Nat} {l e : List Nat} {L S : V} (X : Dr D g n k l e L S) {B : V} {u j a : Nat} {N : Int} (Y : Bd B u j a N) {G : Int} {F S3 W : V} {f : List Int} {s w : List (List Int)} (h1 : Zs F f) (h2 : Tab S3 s) (h3 : Tab W w) {R : V} {o : List Int} (hR : Zs R o) (m : Int) :
  Fn prog HiddenPredicts.f [D, B, hm G F S3 W, R, .int m] (.bool true) := by
 obtain ⟨x0, x1, x2, H, c⟩ := chains_spec X Y (G := G) h1 h2 h3
 obtain ⟨G0, F0, S0, W0, f0, s0, w0, M0, rfl⟩ := H x0 (by simp)
 obtain ⟨G1, F1, S1, W1, f1, s1, w1, M1, rfl⟩ := H x1 (by simp)
 obtain ⟨G2, F2, S2, W2, f2, s2, w2, M2, rfl⟩ := H x2 (by simp)
 obtain ⟨O1, o1, y1, y2, y3, y4, c1⟩ := DraftWhat_spec X
 have hD := X.eq
 have hB := Y.eq
 rw [hD] at c c1 ⊢
 rw [hB] at c ⊢
 have lR := hR.len
 have mR := min10 lR
 have mle : min o.length 10 <= o.length := by omega
 generalize hv : V.list [hm G0 F0 S0 W0, hm G1 F1 S1 W1, hm G2 F2 S2 W2] = v6 at *
 have e0 : v6.get 0 = hm G0 F0 S0 W0 := by rw [<- hv]; rfl
 have e1 : v6.get 1 = hm G1 F1 S1 W1 := by rw [<- hv]; rfl
 have e2 : v6.get 2 = hm G2 F2 S2 W2 := by rw [<- hv]; rfl
 have n3 : Comes HiddenPredicts.K HiddenPredicts.f HiddenPredicts.s1 ⟨[3], [], [.list [.int g, .int n, .int k, L, S], .list [.int u, .int j, .int a, .int N], hm G F S3 W, R, .int m, .bool true, v6]⟩ (.bool true) := by
  refine Comes.last progOk HiddenPredicts.p5 [] ?_ rfl
  simp only [HM, FT, IB, EvOk, E.b, E.i, E.v, Env.ext, evL]; omega
 have n2 : Comes HiddenPredicts.K HiddenPredicts.f HiddenPredicts.s1 ⟨[2], [], [.list [.int g, .int n, .int k, L, S], .list [.int u, .int j, .int a, .int N], hm G F S3 W, R, .int m, .bool true, v6]⟩ (.bool true) := by
  refine Comes.step progOk HiddenPredicts.p4 [O1] ?_ ?_
  ·simp only [HM, FT, IB, EvOk, E.b, E.i, E.v, Env.ext, evL]; rw [mR, lR]
   exact ⟨by omega, by omega, by omega, by omega, by omega, c1, by omega, by omega⟩
  ·simp only [Sub.ev, E.v, E.i, Env.ext, List.map_cons, List.map_nil, evL]
   rw [e2]
   exact preds_chain M2 y1 (by omega) hR (j := 2) (by omega) (by omega) n3
 have n1 : Comes HiddenPredicts.K HiddenPredicts.f HiddenPredicts.s1 ⟨[1], [], [.list [.int g, .int n, .int k, L, S], .list [.int u, .int j, .int a, .int N], hm G F S3 W, R, .int m, .bool true, v6]⟩ (.bool true) := by
  refine Comes.step progOk HiddenPredicts.p3 [O1] ?_ ?_
  ·simp only [HM, FT, IB, EvOk, E.b, E.i, E.v, Env.ext, evL]; rw [mR, lR]
   exact ⟨by omega, by omega, by omega, by omega, c1, by omega, by omega⟩
  ·simp only [Sub.ev, E.v, E.i, Env.ext, List.map_cons, List.map_nil, evL]
   rw [e1]
   exact preds_chain M1 y1 (by omega) hR (j := 1) (by omega) (by omega) n2
 have n0 : Comes HiddenPredicts.K HiddenPredicts.f HiddenPredicts.s1 ⟨[0], [], [.list [.int g, .int n, .int k, L, S], .list [.int u, .int j, .int a, .int N], hm G F S3 W, R, .int m, .bool true, v6]⟩ (.bool true) := by
  refine Comes.step progOk HiddenPredicts.p2 [O1] ?_ ?_
  ·simp only [HM, FT, IB, EvOk, E.b, E.i, E.v, Env.ext, evL]; rw [mR, lR]
   exact ⟨by omega, by omega, by omega, c1, by omega, by omega⟩
  ·simp only [Sub.ev, E.v, E.i, Env.ext, List.map_cons, List.map_nil, evL]
   rw [e0]
   exact preds_chain M0 y1 (by omega) hR (j := 0) (by omega) (by omega) n1
 refine Fn.of (C := HiddenPredicts.K) HiddenPredicts.b (Comes.step progOk HiddenPredicts.p1 [.bool true, v6] ?_ n0)
 simp only [HM, FT, IB, EvOk, E.b, E.i, E.v, Env.ext, evL]
 exact ⟨wk, c⟩
end
end X
