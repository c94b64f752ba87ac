/- Texts of the claim: GlobH, Hid10, Hid11, Hid12, Hid13, Hid14, Hid15, Hid16, HMeets, Hid17, Hid18, Hid19, HEnds. -/
import Derived.Test.YtildjgdhdcoojaaDoorZ11
import Derived.Test.YtildjgdhdcoojaaDoorZ13
import Derived.Test.YtildjgdhdcoojaaDoorCards
import Derived.Test.YtildjgdhdcoojaaDoorTie
import Derived.ProofKit
import Derived.OpenShut
import Derived.ShutString
import Derived.ChangeOld
import Derived.Below
import Derived.LaidMore
import Derived.Stop.Joined
import Derived.Lib.LaidTab
set_option linter.unusedVariables false
set_option linter.unusedSimpArgs false
namespace Go.Proofs.YtildjgdhdcoojaaDoor.GlobH
open Go
theorem own : ownKnob Tryd.prog.godebug = none := by kernel_rfl
theorem laidOut : laidOutB Tryd.prog = true := by kernel_rfl
theorem gDir : Tryd.prog.globalNamed "haruspex/hidden.directions" = some 0 := by kernel_rfl
theorem tDir : (Tryd.prog.globals[0]?).map (·.type) = some 144 := by kernel_rfl
theorem cells143 : Tryd.prog.cellsOf 143 = 1 := by kernel_rfl
def laidH : List (String × DataW Unit) := [("haruspex/hidden.directions", Rows.laid_haruspex_hidden_directions)]
theorem door_met (os : Os) (args : Array Value) : laidMetH Tryd.prog laidH ((World.doorLaid Tryd.prog 600 os).forCall (fun _ _ => 0) ⟨#[], args, []⟩).memory :=
 laidMetH_of_parts3 (fuel := 8) (laidMet_of_run' 8 (by kernel_rfl) (by kernel_rfl)) (by kernel_rfl) (by kernel_rfl)
set_option maxRecDepth 100000 in
theorem of_laid {W : World} (h : laidMetH Tryd.prog laidH W) : W.cell? ⟨0, 0, none⟩ = some (.func (.func 65) #[] #[]) ∧ W.cell? ⟨0, 1, none⟩ = some (.func (.func 140) #[] #[]) := by
 obtain ⟨g, t, cs, fuel, p, hg, ht, hv, hd⟩ := h.funcs (List.mem_singleton.2 rfl)
 obtain rfl := Option.some.inj (gDir.symm.trans hg)
 obtain rfl := Option.some.inj (tDir.symm.trans ht)
 have hd' : DataW.trod (funcToken Tryd.prog) Tryd.prog W 0 (fun _ => true) true fuel 144 cs.toList = some (.agg [.held [40, 104, 97, 114, 117, 115, 112, 101, 120, 47, 104, 105, 100, 100, 101, 110, 46, 119, 97, 116, 99, 104, 101, 114, 41, 46, 117, 112], .held [40, 104, 97, 114, 117, 115, 112, 101, 120, 47, 104, 105, 100, 100, 101, 110, 46, 119, 97, 116, 99, 104, 101, 114, 41, 46, 100, 111, 119, 110]], p) := hd
 clear hd
 cases fuel with
 | zero => simp [DataW.trod] at hd'
 | succ fuel =>
  simp only [DataW.trod, Tryd.underlying144, cells143, Nat.mul_one] at hd'
  split at hd'
  ·rename_i hl
   obtain ⟨xs, hm, hx⟩ := Option.map_eq_some_iff.1 hd'
   have hxs : xs.map (·.1) = [.held [40, 104, 97, 114, 117, 115, 112, 101, 120, 47, 104, 105, 100, 100, 101, 110, 46, 119, 97, 116, 99, 104, 101, 114, 41, 46, 117, 112], .held [40, 104, 97, 114, 117, 115, 112, 101, 120, 47, 104, 105, 100, 100, 101, 110, 46, 119, 97, 116, 99, 104, 101, 114, 41, 46, 100, 111, 119, 110]] := by
    have := congrArg Prod.fst hx
    injection this
   have hcl : cs.toList.length = 2 := by first | exact hl | (exact of_decide_eq_true hl) | simpa using hl
   obtain ⟨a, b, hab⟩ : ∃ a b, cs.toList = [a, b] := by
    match cs.toList, hcl with
    | [a, b], _ => exact ⟨a, b, rfl⟩
   rw [hab] at hm
   obtain ⟨y0, h0, r0⟩ := Lib.mapM_at hm 0 0 (by simp)
   obtain ⟨y1, h1, r1⟩ := Lib.mapM_at hm 1 1 (by simp)
   have e0 : (xs.map (·.1))[0]? = some y0.1 := by simp [h0]
   have e1 : (xs.map (·.1))[1]? = some y1.1 := by simp [h1]
   rw [hxs] at e0 e1
   simp only [List.getElem?_cons_zero, List.getElem?_cons_succ, Option.some.injEq] at e0 e1
   obtain ⟨y0a, y0b⟩ := y0
   obtain ⟨y1a, y1b⟩ := y1
   simp only at e0 e1
   subst e0; subst e1
   simp only [List.drop_zero, List.take_succ_cons, List.take_zero, List.drop_succ_cons] at r0 r1
   obtain rfl := func_of_trod (f0 := 65) Tryd.underlying143 (by kernel_rfl) r0
   obtain rfl := func_of_trod (f0 := 140) Tryd.underlying143 (by kernel_rfl) r1
   have c0 := World.var?_cell hg hv 0
   have c1 := World.var?_cell hg hv 1
   have hcs : cs = #[Value.func (.func 65) #[] #[], Value.func (.func 140) #[] #[]] := by
    apply Array.ext'
    exact hab
   rw [hcs] at c0 c1
   exact ⟨by simpa using c0, by simpa using c1⟩
  ·cases hd'
theorem glob {W : World} (h : laidMetH Tryd.prog laidH W) : Go.Abs.GlobI (Go.Sym.memOf W) := by
 obtain ⟨h0, h1⟩ := of_laid h
 refine ⟨fun μ g => ?_⟩
 by_cases hg : g = 0
 ·subst hg
  exact .vptr (.cons (u := .func (.func 65) #[] #[]) h0 (.func .nil .nil) (.cons (u := .func (.func 140) #[] #[]) h1 (.func .nil .nil) .nil))
 ·have : Go.Abs.gv g = .bad := by
   unfold Go.Abs.gv Go.Abs.gtab
   have e : (g == 0) = false := by simp [hg]
   simp only [List.lookup, e]
  rw [this]; exact .bad _
end Go.Proofs.YtildjgdhdcoojaaDoor.GlobH
namespace X
def sumR (n : Nat) (g : Nat → Int) : Int := ((List.range n).map g).sum
theorem sumR_zero (g : Nat → Int) : sumR 0 g = 0 := rfl
theorem sumR_succ (n : Nat) (g : Nat → Int) : sumR (n + 1) g = sumR n g + g n := by
 unfold sumR; rw [List.range_succ, List.map_append, List.sum_append]; simp
theorem sumR_congr {n : Nat} {g h : Nat → Int} (e : ∀ i, i < n → g i = h i) : sumR n g = sumR n h := by
 unfold sumR; congr 1
 apply List.map_congr_left
 intro i hi; exact e i (List.mem_range.1 hi)
theorem sumR_nonneg {n : Nat} {g : Nat → Int} (h : ∀ i, i < n → 0 ≤ g i) : 0 ≤ sumR n g := by
 induction n with
 | zero => simp [sumR_zero]
 | succ n ih => rw [sumR_succ]; have := ih fun i hi => h i (by omega); have := h n (by omega); omega
theorem sumR_le {n : Nat} {g h : Nat → Int} (e : ∀ i, i < n → g i ≤ h i) : sumR n g ≤ sumR n h := by
 induction n with
 | zero => simp [sumR_zero]
 | succ n ih => rw [sumR_succ, sumR_succ]; have := ih fun i hi => e i (by omega); have := e n (by omega); omega
theorem sumR_mono {n m : Nat} {g : Nat → Int} (hm : m ≤ n) (h : ∀ i, i < n → 0 ≤ g i) : sumR m g ≤ sumR n g := by
 induction n with
 | zero =>
  have : m = 0 := by omega
  subst this; omega
 | succ n ih =>
  by_cases q : m = n + 1
  ·subst q; omega
  ·rw [sumR_succ]; have := ih (by omega) fun i hi => h i (by omega); have := h n (by omega); omega
theorem sumR_one {n i : Nat} {g : Nat → Int} (hi : i < n) (h : ∀ i, i < n → 0 ≤ g i) : g i ≤ sumR n g := by
 have h1 := sumR_mono (m := i + 1) (by omega : i + 1 ≤ n) h
 rw [sumR_succ] at h1
 have := sumR_nonneg (n := i) (g := g) fun j hj => h j (by omega)
 omega
theorem sumR_mul (n : Nat) (g : Nat → Int) (c : Int) : sumR n (fun i => g i * c) = sumR n g * c := by
 induction n with
 | zero => simp [sumR_zero]
 | succ n ih => rw [sumR_succ, sumR_succ, ih, Int.add_mul]
theorem sumR_mul' (n : Nat) (g : Nat → Int) (c : Int) : sumR n (fun i => c * g i) = c * sumR n g := by
 induction n with
 | zero => simp [sumR_zero]
 | succ n ih => rw [sumR_succ, sumR_succ, ih, Int.mul_add]
theorem sumR_add (n : Nat) (g h : Nat → Int) : sumR n (fun i => g i + h i) = sumR n g + sumR n h := by
 induction n with
 | zero => simp [sumR_zero]
 | succ n ih => rw [sumR_succ, sumR_succ, sumR_succ, ih]; omega
theorem sumR_swap (n m : Nat) (g : Nat → Nat → Int) : sumR n (fun i => sumR m (fun j => g i j)) = sumR m (fun j => sumR n (fun i => g i j)) := by
 induction n with
 | zero =>
  induction m with
  | zero => rfl
  | succ m ih => rw [sumR_succ, ← ih]; simp [sumR_zero]
 | succ n ih => rw [sumR_succ, ih, ← sumR_add]; apply sumR_congr; intro i _; rw [sumR_succ]
theorem sumR_list : ∀ (l : List Int), sumR l.length (fun i => l.getD i 0) = l.sum := by
 intro l
 unfold sumR
 congr 1
 apply List.ext_getElem?
 intro i
 rw [List.getElem?_map]
 by_cases h : i < l.length
 ·rw [List.getElem?_range h, List.getElem?_eq_getElem h]; simp [h]
 ·rw [List.getElem?_eq_none (by simp; omega), List.getElem?_eq_none (by omega)]; rfl
section
variable (G : Int) (f : List Int) (s w : List (List Int)) (o : List Int) (n : Nat)
def si (u v : Nat) : Int := (s.getD u []).getD v 0
def sh (t v : Nat) : Int := if o.getD t 0 < 0 then G else (w.getD v []).getD (o.getD t 0).toNat 0
def FW : Nat → Nat → Int
 | 0, v => f.getD v 0 * sh G w o 0 v
 | t + 1, v => sumR n (fun u => FW t u * si s u v) * sh G w o (t + 1) v
def BW : Nat → Nat → Int
 | 0, _ => 1
 | k + 1, v => sumR n (fun u => si s v u * sh G w o (o.length - 1 - k) u * BW k u)
def rowR (g : Nat → Int) : List Int := (List.range n).map g
end
structure SOk (o : List Int) (k : Nat) : Prop where
 l1 : 1 ≤ o.length
 l8 : o.length ≤ 8
 x : ∀ x ∈ o, -1 ≤ x ∧ x < (k : Int)
section
variable {G : Int} {f : List Int} {s w : List (List Int)} {o : List Int} {n k : Nat}
theorem rowB_at {G : Int} {m : Nat} {r : List Int} (h : rowB G m r = true) (v : Nat) : 0 ≤ r.getD v 0 ∧ r.getD v 0 ≤ G := by
 obtain ⟨h1, h2, h3⟩ := rowB_true.1 h
 have h0 : 0 ≤ G := by
  rw [← h3]
  clear h h1 h3
  induction r with
  | nil => simp
  | cons a l ih =>
   have := ih fun x hx => h2 x (by simp [hx])
   have := h2 a (by simp)
   simp; omega
 by_cases hv : v < r.length
 ·have := h2 r[v] (List.getElem_mem hv)
  simp [hv]; omega
 ·simp [hv]; omega
theorem HOk.si (H : HOk G f s w n k) {u : Nat} (hu : u < n) (v : Nat) : 0 ≤ X.si s u v ∧ X.si s u v ≤ G := by
 have hl : u < s.length := by rw [H.sl]; exact hu
 have : s.getD u [] = s[u] := by simp [hl]
 unfold X.si; rw [this]
 exact rowB_at (H.sr _ (List.getElem_mem hl)) v
theorem HOk.si_sum (H : HOk G f s w n k) {u : Nat} (hu : u < n) : sumR n (fun v => X.si s u v) = G := by
 have hl : u < s.length := by rw [H.sl]; exact hu
 have e : s.getD u [] = s[u] := by simp [hl]
 obtain ⟨h1, h2, h3⟩ := rowB_true.1 (H.sr _ (List.getElem_mem hl))
 unfold X.si; rw [e]
 have := sumR_list s[u]
 rw [show s[u].length = n by omega] at this
 rw [this, h3]
theorem HOk.sh (H : HOk G f s w n k) (t : Nat) {v : Nat} (hv : v < n) : 0 ≤ X.sh G w o t v ∧ X.sh G w o t v ≤ G := by
 have := H.g1
 unfold X.sh
 split
 ·omega
 ·have hl : v < w.length := by rw [H.wl]; exact hv
  have e : w.getD v [] = w[v] := by simp [hl]
  rw [e]
  exact rowB_at (H.wr _ (List.getElem_mem hl)) _
theorem HOk.fi (H : HOk G f s w n k) (v : Nat) : 0 ≤ f.getD v 0 ∧ f.getD v 0 ≤ G := rowB_at H.fr v
theorem HOk.fi_sum (H : HOk G f s w n k) : sumR n (fun v => f.getD v 0) = G := by
 have := sumR_list f
 rw [H.fl] at this
 rw [this]; exact (rowB_true.1 H.fr).2.2
theorem HOk.fw_nonneg (H : HOk G f s w n k) : ∀ t v, v < n → 0 ≤ FW G f s w o n t v
 | 0, v, hv => Int.mul_nonneg (H.fi v).1 (H.sh 0 hv).1
 | t + 1, v, hv => Int.mul_nonneg (sumR_nonneg fun u hu => Int.mul_nonneg (H.fw_nonneg t u hu) (H.si hu v).1) (H.sh (t + 1) hv).1
theorem HOk.fw_sum (H : HOk G f s w n k) : ∀ t, sumR n (FW G f s w o n t) ≤ G ^ (2 * t + 2)
 | 0 => by
  have h1 : sumR n (FW G f s w o n 0) ≤ sumR n (fun v => f.getD v 0 * G) := sumR_le fun v hv => Int.mul_le_mul_of_nonneg_left (H.sh 0 hv).2 (H.fi v).1
  rw [sumR_mul, H.fi_sum] at h1
  rw [show G ^ (2 * 0 + 2) = G * G by rw [show 2 * 0 + 2 = 2 from rfl, Int.pow_succ, Int.pow_succ, Int.pow_zero, Int.one_mul]]
  exact h1
 | t + 1 => by
  have ih := H.fw_sum t
  have g1 := H.g1
  have h1 : sumR n (FW G f s w o n (t + 1)) ≤ sumR n (fun v => sumR n (fun u => FW G f s w o n t u * X.si s u v) * G) := sumR_le fun v hv => Int.mul_le_mul_of_nonneg_left (H.sh (t + 1) hv).2 (sumR_nonneg fun u hu => Int.mul_nonneg (H.fw_nonneg t u hu) (H.si hu v).1)
  rw [sumR_mul, sumR_swap] at h1
  have h2 : sumR n (fun u => sumR n (fun v => FW G f s w o n t u * X.si s u v)) = sumR n (FW G f s w o n t) * G := by
   rw [← sumR_mul]; apply sumR_congr; intro u hu
   rw [sumR_mul' n (fun v => X.si s u v), H.si_sum hu]
  rw [h2] at h1
  rw [show 2 * (t + 1) + 2 = (2 * t + 2) + 1 + 1 by omega, Int.pow_succ, Int.pow_succ]
  refine Int.le_trans h1 ?_
  exact Int.mul_le_mul_of_nonneg_right (Int.mul_le_mul_of_nonneg_right ih (by omega)) (by omega)
theorem pow12 {G : Int} (g1 : 1 ≤ G) (g2 : G ≤ 12) : ∀ m, G ^ m ≤ 12 ^ m ∧ 1 ≤ G ^ m
 | 0 => by simp
 | m + 1 => by
  obtain ⟨h1, h2⟩ := pow12 g1 g2 m
  rw [Int.pow_succ, Int.pow_succ]
  refine ⟨Int.le_trans (Int.mul_le_mul_of_nonneg_right h1 (by omega)) (Int.mul_le_mul_of_nonneg_left g2 (by omega)), ?_⟩
  have := Int.mul_le_mul h2 g1 (by omega) (by omega : (0 : Int) ≤ G ^ m)
  omega
theorem pow16 {G : Int} (g1 : 1 ≤ G) (g2 : G ≤ 12) {m : Nat} (hm : m ≤ 16) : G ^ m ≤ 184884258895036416 := by
 have h := (pow12 g1 g2 m).1
 have h2 : (12 : Int) ^ m ≤ 12 ^ 16 := by
  have : (12 : Nat) ^ m ≤ 12 ^ 16 := Nat.pow_le_pow_right (by omega) hm
  exact_mod_cast this
 have h3 : (12 : Int) ^ 16 = 184884258895036416 := by decide
 omega
theorem HOk.fw_le (H : HOk G f s w n k) {t v : Nat} (ht : t < 8) (hv : v < n) : FW G f s w o n t v ≤ 184884258895036416 := by
 have h1 := sumR_one (g := FW G f s w o n t) hv fun i hi => H.fw_nonneg t i hi
 have h2 := H.fw_sum (o := o) t
 have h3 := pow16 H.g1 H.g2 (m := 2 * t + 2) (by omega)
 omega
theorem HOk.fw_tot (H : HOk G f s w n k) {t : Nat} (ht : t < 8) : sumR n (FW G f s w o n t) ≤ 184884258895036416 := by
 have h2 := H.fw_sum (o := o) t
 have h3 := pow16 H.g1 H.g2 (m := 2 * t + 2) (by omega)
 omega
theorem HOk.fw_pre (H : HOk G f s w n k) {t v : Nat} (ht : t < 7) (hv : v < n) : sumR n (fun u => FW G f s w o n t u * X.si s u v) ≤ 184884258895036416 := by
 have h1 : sumR n (fun u => FW G f s w o n t u * X.si s u v) ≤ sumR n (fun u => FW G f s w o n t u * G) := sumR_le fun u hu => Int.mul_le_mul_of_nonneg_left (H.si hu v).2 (H.fw_nonneg t u hu)
 rw [sumR_mul] at h1
 have h2 := Int.mul_le_mul_of_nonneg_right (H.fw_sum (o := o) t) (show 0 ≤ G by have := H.g1; omega)
 have h3 := pow16 H.g1 H.g2 (m := 2 * t + 2 + 1) (by omega)
 rw [Int.pow_succ] at h3
 omega
theorem HOk.bw_nonneg (H : HOk G f s w n k) : ∀ t v, v < n → 0 ≤ BW G s w o n t v
 | 0, v, hv => by simp [BW]
 | t + 1, v, hv => sumR_nonneg fun u hu => Int.mul_nonneg (Int.mul_nonneg (H.si hv u).1 (H.sh _ hu).1) (H.bw_nonneg t u hu)
theorem HOk.bw_le' (H : HOk G f s w n k) : ∀ t v, v < n → BW G s w o n t v ≤ G ^ (2 * t)
 | 0, v, hv => by simp [BW]
 | t + 1, v, hv => by
  have g1 := H.g1
  have h1 : BW G s w o n (t + 1) v ≤ sumR n (fun u => X.si s v u * (G * G ^ (2 * t))) := sumR_le fun u hu => by
   rw [Int.mul_assoc]
   refine Int.mul_le_mul_of_nonneg_left ?_ (H.si hv u).1
   exact Int.mul_le_mul (H.sh _ hu).2 (H.bw_le' t u hu) (H.bw_nonneg t u hu) (by omega)
  rw [sumR_mul, H.si_sum hv] at h1
  rw [show 2 * (t + 1) = 2 * t + 1 + 1 by omega, Int.pow_succ, Int.pow_succ]
  have : G ^ (2 * t) * G * G = G * (G * G ^ (2 * t)) := by rw [Int.mul_comm (G ^ (2 * t)) G, Int.mul_comm _ G]
  omega
theorem HOk.bw_le (H : HOk G f s w n k) {t v : Nat} (ht : t < 8) (hv : v < n) : BW G s w o n t v ≤ 184884258895036416 := by
 have h1 := H.bw_le' (o := o) t v hv
 have h3 := pow16 H.g1 H.g2 (m := 2 * t) (by omega)
 omega
end
theorem rowR_get {n v : Nat} (g : Nat → Int) (h : v < n) : (rowR n g)[v]? = some (g v) := by
 unfold rowR; rw [List.getElem?_map, List.getElem?_range h]; rfl
theorem rowR_len (n : Nat) (g : Nat → Int) : (rowR n g).length = n := by simp [rowR]
end X
namespace X
open Go Go.Abs Go.Sym
def wm (G : Int) (F S W O : V) : V := .list [hm G F S W, O]
structure HV (G : Int) (f : List Int) (s w : List (List Int)) (o : List Int) (n k : Nat) (F S W O : V) : Prop where
 H : HOk G f s w n k
 so : SOk o k
 F : Zs F f
 S : Tab S s
 W : Tab W w
 O : Zs O o
section
variable {G : Int} {f : List Int} {s w : List (List Int)} {o : List Int} {n k : Nat} {F S W O : V}
theorem Tab.at {R : V} {rows : List (List Int)} (h : Tab R rows) {u : Nat} (hu : u < rows.length) : Zs (R.get (u : Int)) (rows.getD u []) := by
 have := h.row u rows[u] (List.getElem?_eq_getElem hu)
 simpa [hu] using this
theorem Zs.at {x : V} {l : List Int} (h : Zs x l) {u : Nat} (hu : u < l.length) : (x.get (u : Int)).toI = l.getD u 0 := by
 rw [h.get (List.getElem?_eq_getElem hu)]; simp [hu]
theorem HV.fi (h : HV G f s w o n k F S W O) {v : Nat} (hv : v < n) : (F.get (v : Int)).toI = f.getD v 0 := h.F.at (by rw [h.H.fl]; exact hv)
theorem HV.si (h : HV G f s w o n k F S W O) {u v : Nat} (hu : u < n) (hv : v < n) : ((S.get (u : Int)).get (v : Int)).toI = X.si s u v ∧ (S.get (u : Int)).len = n := by
 have hl : u < s.length := by rw [h.H.sl]; exact hu
 have hz := h.S.at hl
 have e : s.getD u [] = s[u] := by simp [hl]
 have hr := (rowB_true.1 (h.H.sr _ (List.getElem_mem hl))).1
 refine ⟨hz.at (by rw [e]; omega), by rw [hz.len, e]; omega⟩
theorem HV.wi (h : HV G f s w o n k F S W O) {v : Nat} (hv : v < n) {x : Nat} (hx : x < k) : ((W.get (v : Int)).get (x : Int)).toI = (w.getD v []).getD x 0 ∧ (W.get (v : Int)).len = k := by
 have hl : v < w.length := by rw [h.H.wl]; exact hv
 have hz := h.W.at hl
 have e : w.getD v [] = w[v] := by simp [hl]
 have hr := (rowB_true.1 (h.H.wr _ (List.getElem_mem hl))).1
 refine ⟨hz.at (by rw [e]; omega), by rw [hz.len, e]; omega⟩
theorem HV.ox (h : HV G f s w o n k F S W O) {t : Nat} (ht : t < o.length) : (O.get (t : Int)).toI = o.getD t 0 ∧ -1 ≤ o.getD t 0 ∧ o.getD t 0 < (k : Int) := by
 refine ⟨h.O.at ht, ?_⟩
 have := h.so.x o[t] (List.getElem_mem ht)
 simpa [ht] using this
theorem HV.lens (h : HV G f s w o n k F S W O) : F.len = n ∧ S.len = n ∧ W.len = n ∧ O.len = o.length := by
 refine ⟨by rw [h.F.len, h.H.fl], by rw [h.S.lenI, h.H.sl], by rw [h.W.lenI, h.H.wl], h.O.len⟩
theorem hshows_spec (h : HV G f s w o n k F S W O) {t v : Nat} (ht : t < o.length) (hv : v < n) : Fn prog hshows.f [wm G F S W O, .int t, .int v] (.int (sh G w o t v)) := by
 have m0 : (((wm G F S W O).get 0).get 0).toI = G := rfl
 have m3 : ((wm G F S W O).get 0).get 3 = W := rfl
 have mo : (wm G F S W O).get 1 = O := rfl
 obtain ⟨_, _, lw, lo⟩ := h.lens
 obtain ⟨o1, o2, o3⟩ := h.ox ht
 refine Fn.of (C := hshows.K) hshows.b ?_
 by_cases c : o.getD t 0 < 0
 ·refine Comes.last progOk hshows.p0 [] ?_ ?_
  ·simp only [FT, IB, EvOk, E.b, E.i, E.v, Env.ext, evL]; rw [mo, lo, o1]; omega
  ·simp only [FT, IB, EvOk, E.b, E.i, E.v, Env.ext, evL]; rw [m0]; unfold sh; rw [if_pos c]
 ·obtain ⟨x, hx⟩ : ∃ x : Nat, o.getD t 0 = (x : Int) := ⟨(o.getD t 0).toNat, by omega⟩
  obtain ⟨w1, w2⟩ := h.wi hv (x := x) (by omega)
  refine Comes.last progOk hshows.p1 [] ?_ ?_
  ·simp only [FT, IB, EvOk, E.b, E.i, E.v, Env.ext, evL]; rw [m3, mo, lo, lw, o1, hx, w2]; omega
  ·simp only [FT, IB, EvOk, E.b, E.i, E.v, Env.ext, evL]; rw [m3, mo, o1, hx, w1]; unfold sh; rw [if_neg c, hx]; rfl
structure Upto (T t : Nat) (g : Nat → List Int) (x : V) : Prop where
 len : x.els.length = T
 row : ∀ j, j < t → Zs (x.get (j : Int)) (g j)
 rest : ∀ j, t ≤ j → j < T → x.get (j : Int) = .nil
theorem Upto.lenI {T t : Nat} {g : Nat → List Int} {x : V} (h : Upto T t g x) : x.len = (T : Int) := by simp [V.len, h.len]
theorem set_at {x y : V} {i j : Nat} (hi : i < x.els.length) : (x.set (i : Int) y).get (j : Int) = if j = i then y else x.get (j : Int) := by
 simp only [V.set, V.get, els_list, Int.toNat_natCast]
 by_cases h : j = i
 ·subst h; rw [if_pos rfl, List.getElem?_set_self hi]; rfl
 ·rw [if_neg h, List.getElem?_set_ne (by omega)]
theorem Upto.put {T t : Nat} {g : Nat → List Int} {x y : V} (h : Upto T t g x) (ht : t < T) (hy : Zs y (g t)) : Upto T (t + 1) g (x.set (t : Int) y) := by
 have hl : t < x.els.length := by rw [h.len]; exact ht
 refine ⟨by simp [V.set, els_list, h.len], fun j hj => ?_, fun j h1 h2 => ?_⟩
 ·rw [set_at hl]
  by_cases q : j = t
  ·rw [if_pos q, q]; exact hy
  ·rw [if_neg q]; exact h.row j (by omega)
 ·rw [set_at hl, if_neg (by omega)]; exact h.rest j (by omega) h2
theorem Upto.tab {T : Nat} {g : Nat → List Int} {x : V} (h : Upto T T g x) : Tab x ((List.range T).map g) := by
 refine ⟨by simp [h.len], fun j r hj => ?_⟩
 have hlt : j < T := by simpa using (List.getElem?_eq_some_iff.1 hj).1
 rw [List.getElem?_map, List.getElem?_range hlt] at hj
 simp at hj; subst hj
 exact h.row j hlt
theorem upto0 (T : Nat) (g : Nat → List Int) : Upto T 0 g (V.rep (T : Int) .nil) := by
 refine ⟨by simp [V.rep, els_list], fun j hj => by omega, fun j _ h2 => ?_⟩
 simp [V.rep, V.get, els_list, h2]
theorem take_snoc {l : List Int} {i : Nat} {x : Int} (h : l[i]? = some x) : l.take (i + 1) = l.take i ++ [x] := by
 rw [List.take_add_one, h]; rfl
abbrev fwR (G : Int) (f : List Int) (s w : List (List Int)) (o : List Int) (n t : Nat) : List Int := rowR n (FW G f s w o n t)
def bef (G : Int) (f : List Int) (s w : List (List Int)) (o : List Int) (n : Nat) : Nat → List Int
 | 0 => []
 | t + 1 => fwR G f s w o n t
theorem forward_cell (h : HV G f s w o n k F S W O) {t v : Nat} (ht : t < o.length) (hv : v < n) {row b0 b1 out r : V} {l : List Int} (hb : Zs b0 (bef G f s w o n t)) (hrow : Zs row l) (hlr : l.length ≤ 100) (hol : out.len = (o.length : Int))
  (nx : Comes forward.K forward.f forward.s4 ⟨[(t : Int), (v : Int) + 1], [], [wm G F S W O, row, row.snoc (.int (FW G f s w o n t v)), b1, out]⟩ r) :
  Comes forward.K forward.f forward.s3 ⟨[(v : Int), (t : Int), b0.len, 0, 0], [], [wm G F S W O, row, b0, b1, b0, out]⟩ r := by
 have m1 : ((wm G F S W O).get 0).get 1 = F := rfl
 have m2 : ((wm G F S W O).get 0).get 2 = S := rfl
 obtain ⟨lf, ls, lw, lo⟩ := h.lens
 have hlo := h.so.l8
 have hn4 := h.H.n4
 have rl := hrow.len
 have sp := hshows_spec h ht hv
 obtain ⟨sh1, sh2⟩ := h.H.sh (o := o) t hv
 have fw0 := h.H.fw_nonneg (o := o) t v hv
 have fw1 := h.H.fw_le (o := o) (t := t) (by omega) hv
 have bl := hb.len
 cases t with
 | zero =>
  have b0l : b0.len = 0 := by rw [bl]; rfl
  have fi := h.fi hv
  refine Comes.step progOk forward.p6 [.int (sh G w o 0 v)] ?_ ?_
  ·simp only [FT, IB, EvOk, E.b, E.i, E.v, Env.ext, evL]; rw [m1, lf, b0l, hol, rl, fi]
   have e : f.getD v 0 * sh G w o 0 v = FW G f s w o n 0 v := rfl
   rw [e]
   exact ⟨by omega, by omega, by omega, sp, by omega, by omega, by omega, by omega, by omega, by omega⟩
  ·simp only [Sub.ev, E.v, E.i, Env.ext, List.map_cons, List.map_nil, evL]
   rw [m1, fi]
   exact nx
 | succ t =>
  have b0l : b0.len = (n : Int) := by rw [bl]; simp [bef, rowR_len]
  have bat : ∀ u, u < n → (b0.get (u : Int)).toI = FW G f s w o n t u := fun u hu => hb.get (rowR_get _ hu)
  have tot := h.H.fw_pre (o := o) (t := t) (v := v) (by omega) hv
  have nn : ∀ u, u < n → 0 ≤ FW G f s w o n t u * X.si s u v := fun u hu => Int.mul_nonneg (h.H.fw_nonneg t u hu) (h.H.si hu v).1
  have loop : ∀ (q u : Nat) (u' sum : Int), q + u = n → u' = u → sum = sumR u (fun u => FW G f s w o n t u * X.si s u v) → Comes forward.K forward.f forward.s3 ⟨[(v : Int), ((t + 1 : Nat) : Int), b0.len, sum, u'], [], [wm G F S W O, row, b0, b1, b0, out]⟩ r := by
   intro q
   induction q with
   | zero =>
    intro u u' sum hq hu hs
    have : u = n := by omega
    subst hu this
    have e : sum * sh G w o (t + 1) v = FW G f s w o u (t + 1) v := by rw [hs]; rfl
    refine Comes.step progOk forward.p7 [.int (sh G w o (t + 1) v)] ?_ ?_
    ·simp only [FT, IB, EvOk, E.b, E.i, E.v, Env.ext, evL]; rw [b0l, hol, rl, e]
     exact ⟨by omega, by omega, sp, by omega, by omega, by omega, by omega, by omega, by omega⟩
    ·simp only [Sub.ev, E.v, E.i, Env.ext, List.map_cons, List.map_nil, evL]
     rw [e]
     exact nx
   | succ q ih =>
    intro u u' sum hq hu hs
    subst hu
    have nx2 := ih (u + 1) ((u : Int) + 1) (sum + FW G f s w o n t u * X.si s u v) (by omega) (by omega) (by rw [sumR_succ, hs])
    obtain ⟨s1, s2⟩ := h.si (u := u) (v := v) (by omega) hv
    have hb1 := bat u (by omega)
    have mono := sumR_mono (m := u + 1) (n := n) (by omega) nn
    rw [sumR_succ, ← hs] at mono
    have p0 := sumR_nonneg (n := u) (g := fun u => FW G f s w o n t u * X.si s u v) fun i hi => nn i (by omega)
    rw [← hs] at p0
    have p1 := nn u (by omega)
    refine Comes.step progOk forward.p5 [] ?_ ?_
    ·simp only [FT, IB, EvOk, E.b, E.i, E.v, Env.ext, evL]; rw [m2, ls, b0l, s1, s2, hb1]
     generalize FW G f s w o n t u * X.si s u v = z at *
     omega
    ·simp only [Sub.ev, E.v, E.i, Env.ext, List.map_cons, List.map_nil, evL]
     rw [m2, s1, hb1]
     exact nx2
  exact loop n 0 0 0 (by omega) rfl rfl
end
end X
namespace X
open Go Go.Abs Go.Sym
section
variable {G : Int} {f : List Int} {s w : List (List Int)} {o : List Int} {n k : Nat} {F S W O : V}
theorem rowR_take_all (n : Nat) (g : Nat → Int) : (rowR n g).take n = rowR n g := List.take_of_length_le (by rw [rowR_len]; omega)
theorem set_self {x y : V} {i : Nat} (hi : i < x.els.length) : (x.set (i : Int) y).get (i : Int) = y := by rw [set_at hi, if_pos rfl]
def lz (l : List Int) : V := .list (l.map V.int)
theorem lz_zs (l : List Int) : Zs (lz l) l := rfl
theorem snoc_lz {x : V} {l : List Int} (h : Zs x l) (a : Int) : x.snoc (.int a) = lz (l ++ [a]) := by
 unfold Zs at h; unfold V.snoc lz; rw [h]; simp
theorem forward_row (h : HV G f s w o n k F S W O) {t : Nat} (ht : t < o.length) {b0 out r : V} (hb : Zs b0 (bef G f s w o n t)) (hu : Upto o.length t (fwR G f s w o n) out)
  (nx : Comes forward.K forward.f forward.s1 ⟨[(t : Int) + 1], [], [wm G F S W O, lz (fwR G f s w o n t), out.set (t : Int) (lz (fwR G f s w o n t))]⟩ r) :
  Comes forward.K forward.f forward.s1 ⟨[(t : Int)], [], [wm G F S W O, b0, out]⟩ r := by
 have m1 : ((wm G F S W O).get 0).get 1 = F := rfl
 have mo : (wm G F S W O).get 1 = O := rfl
 obtain ⟨lf, ls, lw, lo⟩ := h.lens
 have hlo := h.so.l8
 have hn1 := h.H.n1
 have hn4 := h.H.n4
 have hol := hu.lenI
 have hnil := hu.rest t (Nat.le_refl _) ht
 have hlt : t < out.els.length := by rw [hu.len]; exact ht
 have cells : ∀ (q v : Nat) (r1 : V), q + v = n → 0 < v → Comes forward.K forward.f forward.s4 ⟨[(t : Int), (v : Int)], [], [wm G F S W O, r1, lz ((fwR G f s w o n t).take v), b0, out]⟩ r := by
  intro q
  induction q with
  | zero =>
   intro v r1 hq hv
   have : v = n := by omega
   subst this
   rw [rowR_take_all]
   have e := set_self (y := lz (fwR G f s w o v t)) hlt
   refine Comes.step progOk forward.p9 [] ?_ ?_
   ·simp only [FT, IB, EvOk, E.b, E.i, E.v, Env.ext, evL]; rw [m1, lf, hol]; omega
   ·simp only [Sub.ev, E.v, E.i, Env.ext, List.map_cons, List.map_nil, evL]
    rw [e]
    exact nx
  | succ q ih =>
   intro v r1 hq hv
   have hvn : v < n := by omega
   have nx2 := ih (v + 1) (lz ((fwR G f s w o n t).take v)) (by omega) (by omega)
   rw [take_snoc (rowR_get _ hvn), ← snoc_lz (lz_zs _)] at nx2
   have := forward_cell h ht hvn (b1 := b0) hb (lz_zs _) (by rw [List.length_take, rowR_len]; omega) hol nx2
   refine Comes.step progOk forward.p8 [] ?_ this
   simp only [FT, IB, EvOk, E.b, E.i, E.v, Env.ext, evL]; rw [m1, lf, hol]; omega
 have c1 := cells (n - 1) 1 .nil (by omega) (by omega)
 rw [take_snoc (rowR_get (n := n) (v := 0) (FW G f s w o n t) (by omega)), List.take_zero, ← snoc_lz (x := .nil) (l := []) rfl] at c1
 have h0 := forward_cell h ht (v := 0) (by omega) (row := .nil) (b1 := b0) (l := []) hb rfl (by simp) hol c1
 have h1 : Comes forward.K forward.f forward.s2 ⟨[(t : Int)], [], [wm G F S W O, b0, out]⟩ r := by
  refine Comes.step progOk forward.p3 [] ?_ h0
  simp only [FT, IB, EvOk, E.b, E.i, E.v, Env.ext, evL]; rw [m1, lf, hol, hnil]
  exact ⟨by omega, by omega, rfl, by omega, by omega⟩
 refine Comes.step progOk forward.p1 [] ?_ h1
 simp only [FT, IB, EvOk, E.b, E.i, E.v, Env.ext, evL]; rw [mo, lo]; omega
theorem forward_spec (h : HV G f s w o n k F S W O) : ∃ X, Tab X ((List.range o.length).map (fwR G f s w o n)) ∧ Fn prog forward.f [wm G F S W O] X := by
 have mo : (wm G F S W O).get 1 = O := rfl
 obtain ⟨lf, ls, lw, lo⟩ := h.lens
 have hlo := h.so.l8
 have loop : ∀ (q t : Nat) (t' : Int) (b0 out : V), q + t = o.length → t' = t → Zs b0 (bef G f s w o n t) → Upto o.length t (fwR G f s w o n) out → ∃ X, Tab X ((List.range o.length).map (fwR G f s w o n)) ∧ Comes forward.K forward.f forward.s1 ⟨[t'], [], [wm G F S W O, b0, out]⟩ X := by
  intro q
  induction q with
  | zero =>
   intro t t' b0 out hq ht hb hu
   have : t = o.length := by omega
   subst ht this
   refine ⟨out, hu.tab, Comes.last progOk forward.p2 [] ?_ ?_⟩
   ·simp only [FT, IB, EvOk, E.b, E.i, E.v, Env.ext, evL]; rw [mo, lo]; omega
   ·simp only [FT, IB, EvOk, E.b, E.i, E.v, Env.ext, evL]
  | succ q ih =>
   intro t t' b0 out hq ht hb hu
   subst ht
   obtain ⟨X, q1, q2⟩ := ih (t + 1) ((t : Int) + 1) _ _ (by omega) (by omega) (lz_zs _) (hu.put (by omega) (lz_zs _))
   exact ⟨X, q1, forward_row h (by omega) hb hu q2⟩
 obtain ⟨X, q1, q2⟩ := loop o.length 0 0 .nil (V.rep (o.length : Int) .nil) (by omega) rfl rfl (upto0 _ _)
 refine ⟨X, q1, Fn.of (C := forward.K) forward.b (Comes.step progOk forward.p0 [] ?_ ?_)⟩
 ·simp only [FT, IB, EvOk, E.b, E.i, E.v, Env.ext, evL]; rw [mo, lo]; omega
 ·simp only [Sub.ev, E.v, E.i, Env.ext, List.map_cons, List.map_nil, evL]
  rw [mo, lo]
  exact q2
end
end X
namespace X
open Go Go.Abs Go.Sym
structure Down (T t : Nat) (g : Nat → List Int) (x : V) : Prop where
 len : x.els.length = T
 row : ∀ j, t ≤ j → j < T → Zs (x.get (j : Int)) (g j)
 rest : ∀ j, j < t → x.get (j : Int) = .nil
theorem Down.lenI {T t : Nat} {g : Nat → List Int} {x : V} (h : Down T t g x) : x.len = (T : Int) := by simp [V.len, h.len]
theorem Down.put {T t : Nat} {g : Nat → List Int} {x y : V} (h : Down T (t + 1) g x) (ht : t < T) (hy : Zs y (g t)) : Down T t g (x.set (t : Int) y) := by
 have hl : t < x.els.length := by rw [h.len]; exact ht
 refine ⟨by simp [V.set, els_list, h.len], fun j h1 h2 => ?_, fun j h1 => ?_⟩
 ·rw [set_at hl]
  by_cases q : j = t
  ·rw [if_pos q, q]; exact hy
  ·rw [if_neg q]; exact h.row j (by omega) h2
 ·rw [set_at hl, if_neg (by omega)]; exact h.rest j (by omega)
theorem Down.tab {T : Nat} {g : Nat → List Int} {x : V} (h : Down T 0 g x) : Tab x ((List.range T).map g) := by
 refine ⟨by simp [h.len], fun j r hj => ?_⟩
 have hlt : j < T := by simpa using (List.getElem?_eq_some_iff.1 hj).1
 rw [List.getElem?_map, List.getElem?_range hlt] at hj
 simp at hj; subst hj
 exact h.row j (by omega) hlt
theorem down0 (T : Nat) (g : Nat → List Int) : Down T T g (V.rep (T : Int) .nil) := by
 refine ⟨by simp [V.rep, els_list], fun j h1 h2 => by omega, fun j h2 => ?_⟩
 simp [V.rep, V.get, els_list, h2]
def BT (G : Int) (s w : List (List Int)) (o : List Int) (n t : Nat) : Nat → Int := BW G s w o n (o.length - 1 - t)
abbrev bwR (G : Int) (s w : List (List Int)) (o : List Int) (n t : Nat) : List Int := rowR n (BT G s w o n t)
theorem BT_last {G : Int} {s w : List (List Int)} {o : List Int} {n t v : Nat} (h : t + 1 = o.length) : BT G s w o n t v = 1 := by
 unfold BT; rw [show o.length - 1 - t = 0 by omega]; rfl
theorem BT_step {G : Int} {s w : List (List Int)} {o : List Int} {n t v : Nat} (h : t + 1 < o.length) : BT G s w o n t v = sumR n (fun u => si s v u * sh G w o (t + 1) u * BT G s w o n (t + 1) u) := by
 unfold BT
 rw [show o.length - 1 - t = (o.length - 1 - (t + 1)) + 1 by omega]
 show sumR n _ = _
 rw [show o.length - 1 - (o.length - 1 - (t + 1)) = t + 1 by omega]
section
variable {G : Int} {f : List Int} {s w : List (List Int)} {o : List Int} {n k : Nat} {F S W O : V}
theorem HOk.bt_nonneg (H : HOk G f s w n k) (t : Nat) {v : Nat} (hv : v < n) : 0 ≤ BT G s w o n t v := H.bw_nonneg _ v hv
theorem HOk.bt_le (H : HOk G f s w n k) (ho : o.length ≤ 8) (h1 : 1 ≤ o.length) (t : Nat) {v : Nat} (hv : v < n) : BT G s w o n t v ≤ 184884258895036416 := H.bw_le (by omega) hv
theorem prod3 {a b : Int} {n k : Nat} (H : HOk G f s w n k) (ha : 0 ≤ a ∧ a ≤ G) (hb : 0 ≤ b ∧ b ≤ G) : 0 ≤ a * b ∧ a * b ≤ 144 := by
 have g1 := H.g1
 have g2 := H.g2
 refine ⟨Int.mul_nonneg ha.1 hb.1, ?_⟩
 have := Int.mul_le_mul (show a ≤ 12 by omega) (show b ≤ 12 by omega) hb.1 (by omega)
 omega
theorem backward_cell (h : HV G f s w o n k F S W O) {t v : Nat} (ht : t + 1 < o.length) (hv : v < n) {row b1 v1 v2 out r : V} {x0 : Int} {l : List Int} (hb : Zs b1 (bwR G s w o n (t + 1))) (hrow : Zs row l) (hlr : l.length ≤ 100) (hol : out.len = (o.length : Int))
  (nx : Comes backward.K backward.f backward.s3 ⟨[(v : Int) + 1, (t : Int)], [], [wm G F S W O, row.snoc (.int (BT G s w o n t v)), out, b1]⟩ r) :
  Comes backward.K backward.f backward.s4 ⟨[x0, (t : Int), (v : Int), b1.len, 0, 0], [], [wm G F S W O, v1, v2, b1, out, row]⟩ r := by
 have m2 : ((wm G F S W O).get 0).get 2 = S := rfl
 obtain ⟨lf, ls, lw, lo⟩ := h.lens
 have hlo := h.so.l8
 have hn4 := h.H.n4
 have rl := hrow.len
 have bl : b1.len = (n : Int) := by rw [hb.len]; simp [rowR_len]
 have bat : ∀ u, u < n → (b1.get (u : Int)).toI = BT G s w o n (t + 1) u := fun u hu => hb.get (rowR_get _ hu)
 have tot := h.H.bt_le (o := o) hlo h.so.l1 t hv
 rw [BT_step ht] at nx tot
 have nn : ∀ u, u < n → 0 ≤ si s v u * sh G w o (t + 1) u * BT G s w o n (t + 1) u := fun u hu => Int.mul_nonneg (Int.mul_nonneg (h.H.si hv u).1 (h.H.sh _ hu).1) (h.H.bt_nonneg _ hu)
 have loop : ∀ (q u : Nat) (u' sum : Int), q + u = n → u' = u → sum = sumR u (fun u => si s v u * sh G w o (t + 1) u * BT G s w o n (t + 1) u) → Comes backward.K backward.f backward.s4 ⟨[x0, (t : Int), (v : Int), b1.len, sum, u'], [], [wm G F S W O, v1, v2, b1, out, row]⟩ r := by
  intro q
  induction q with
  | zero =>
   intro u u' sum hq hu hs
   have : u = n := by omega
   subst hu this
   rw [← hs] at nx
   refine Comes.step progOk backward.p10 [] ?_ nx
   simp only [FT, IB, EvOk, E.b, E.i, E.v, Env.ext, evL]; rw [bl, hol, rl]; omega
  | succ q ih =>
   intro u u' sum hq hu hs
   subst hu
   have hun : u < n := by omega
   have nx2 := ih (u + 1) ((u : Int) + 1) (sum + si s v u * sh G w o (t + 1) u * BT G s w o n (t + 1) u) (by omega) (by omega) (by rw [sumR_succ, hs])
   obtain ⟨s1, s2⟩ := h.si (u := v) (v := u) hv hun
   have hb1 := bat u hun
   have sp := hshows_spec h (t := t + 1) (v := u) ht hun
   rw [Int.natCast_add] at sp
   have mono := sumR_mono (m := u + 1) (n := n) (by omega) nn
   rw [sumR_succ, ← hs] at mono
   have p0 := sumR_nonneg (n := u) (g := fun u => si s v u * sh G w o (t + 1) u * BT G s w o n (t + 1) u) fun i hi => nn i (by omega)
   rw [← hs] at p0
   have p1 := nn u hun
   obtain ⟨p2, p3⟩ := prod3 h.H (h.H.si hv u) (h.H.sh (o := o) (t + 1) hun)
   refine Comes.step progOk backward.p9 [.int (sh G w o (t + 1) u)] ?_ ?_
   ·simp only [FT, IB, EvOk, E.b, E.i, E.v, Env.ext, evL]; rw [m2, ls, bl, s1, s2, hb1]
    generalize si s v u * sh G w o (t + 1) u = y at *
    generalize y * BT G s w o n (t + 1) u = z at *
    exact ⟨by omega, by omega, by omega, by omega, by omega, sp, by omega, by omega, by omega, by omega⟩
   ·simp only [Sub.ev, E.v, E.i, Env.ext, List.map_cons, List.map_nil, evL]
    rw [m2, s1, hb1]
    exact nx2
 exact loop n 0 0 0 (by omega) rfl rfl
theorem isNil_lz (l : List Int) : (lz l).isNil = false := rfl
def bnx (G : Int) (s w : List (List Int)) (o : List Int) (n t : Nat) : V := if t + 1 < o.length then lz (bwR G s w o n (t + 1)) else .nil
theorem backward_row (h : HV G f s w o n k F S W O) {t : Nat} (ht : t < o.length) {out r : V} (hu : Down o.length (t + 1) (bwR G s w o n) out)
  (nx : Comes backward.K backward.f backward.s1 ⟨[(t : Int) - 1], [], [wm G F S W O, lz (bwR G s w o n t), out.set (t : Int) (lz (bwR G s w o n t))]⟩ r) :
  Comes backward.K backward.f backward.s1 ⟨[(t : Int)], [], [wm G F S W O, bnx G s w o n t, out]⟩ r := by
 have m1 : ((wm G F S W O).get 0).get 1 = F := rfl
 obtain ⟨lf, ls, lw, lo⟩ := h.lens
 have hlo := h.so.l8
 have hn1 := h.H.n1
 have hn4 := h.H.n4
 have hol := hu.lenI
 have hnil := hu.rest t (by omega)
 have hlt : t < out.els.length := by rw [hu.len]; exact ht
 have t0 := rowR_get (n := n) (v := 0) (BT G s w o n t) (by omega)
 have fin : Comes backward.K backward.f backward.s3 ⟨[(n : Int), (t : Int)], [], [wm G F S W O, lz ((bwR G s w o n t).take n), out, bnx G s w o n t]⟩ r := by
  rw [rowR_take_all]
  have e := set_self (y := lz (bwR G s w o n t)) hlt
  refine Comes.step progOk backward.p8 [] ?_ ?_
  ·simp only [FT, IB, EvOk, E.b, E.i, E.v, Env.ext, evL]; rw [m1, lf, hol]; omega
  ·simp only [Sub.ev, E.v, E.i, Env.ext, List.map_cons, List.map_nil, evL]
   rw [e]
   exact nx
 have h1 : Comes backward.K backward.f backward.s2 ⟨[(t : Int)], [], [wm G F S W O, out, bnx G s w o n t]⟩ r := by
  by_cases hl : t + 1 < o.length
  ·have hb : bnx G s w o n t = lz (bwR G s w o n (t + 1)) := by unfold bnx; rw [if_pos hl]
   rw [hb] at fin ⊢
   have cells : ∀ (q v : Nat), q + v = n → 0 < v → Comes backward.K backward.f backward.s3 ⟨[(v : Int), (t : Int)], [], [wm G F S W O, lz ((bwR G s w o n t).take v), out, lz (bwR G s w o n (t + 1))]⟩ r := by
    intro q
    induction q with
    | zero =>
     intro v hq hv
     have : v = n := by omega
     subst this
     exact fin
    | succ q ih =>
     intro v hq hv
     have hvn : v < n := by omega
     have nx2 := ih (v + 1) (by omega) (by omega)
     rw [take_snoc (rowR_get _ hvn), ← snoc_lz (lz_zs _)] at nx2
     have := backward_cell h hl hvn (b1 := lz (bwR G s w o n (t + 1))) (v1 := lz ((bwR G s w o n t).take v)) (v2 := out) (x0 := (v : Int)) (lz_zs _) (lz_zs _) (by rw [List.length_take, rowR_len]; omega) hol nx2
     refine Comes.step progOk backward.p7 [] ?_ this
     simp only [FT, IB, EvOk, E.b, E.i, E.v, Env.ext, evL]; rw [m1, lf, hol]; exact ⟨by omega, by omega, by omega, isNil_lz _⟩
   have c1 := cells (n - 1) 1 (by omega) (by omega)
   rw [take_snoc t0, List.take_zero, ← snoc_lz (x := .nil) (l := []) rfl] at c1
   have h0 := backward_cell h hl (v := 0) (by omega) (row := .nil) (b1 := lz (bwR G s w o n (t + 1))) (v1 := out) (v2 := lz (bwR G s w o n (t + 1))) (x0 := (t : Int)) (l := []) (lz_zs _) rfl (by simp) hol c1
   refine Comes.step progOk backward.p4 [] ?_ h0
   simp only [FT, IB, EvOk, E.b, E.i, E.v, Env.ext, evL]; rw [m1, lf, hol, hnil]
   exact ⟨by omega, by omega, rfl, by omega, by omega, isNil_lz _⟩
  ·have hb : bnx G s w o n t = .nil := by unfold bnx; rw [if_neg hl]
   rw [hb] at fin ⊢
   have one : ∀ v, BT G s w o n t v = 1 := fun v => BT_last (by omega)
   have cells : ∀ (q v : Nat), q + v = n → 0 < v → Comes backward.K backward.f backward.s3 ⟨[(v : Int), (t : Int)], [], [wm G F S W O, lz ((bwR G s w o n t).take v), out, .nil]⟩ r := by
    intro q
    induction q with
    | zero =>
     intro v hq hv
     have : v = n := by omega
     subst this
     exact fin
    | succ q ih =>
     intro v hq hv
     have hvn : v < n := by omega
     have nx2 := ih (v + 1) (by omega) (by omega)
     rw [take_snoc (rowR_get _ hvn), ← snoc_lz (lz_zs _), one] at nx2
     have rl := (lz_zs ((bwR G s w o n t).take v)).len
     rw [List.length_take, rowR_len] at rl
     refine Comes.step progOk backward.p6 [] ?_ nx2
     simp only [FT, IB, EvOk, E.b, E.i, E.v, Env.ext, evL]; rw [m1, lf, hol, rl]; exact ⟨by omega, by omega, by omega, rfl, by omega, by omega, by omega, by omega, by omega⟩
   have c1 := cells (n - 1) 1 (by omega) (by omega)
   rw [take_snoc t0, List.take_zero, ← snoc_lz (x := .nil) (l := []) rfl, one] at c1
   refine Comes.step progOk backward.p3 [] ?_ c1
   simp only [FT, IB, EvOk, E.b, E.i, E.v, Env.ext, evL]; rw [m1, lf, hol, hnil]
   exact ⟨by omega, by omega, rfl, by omega, by omega, rfl, by omega, by omega, by omega⟩
 refine Comes.step progOk backward.p1 [] ?_ h1
 simp only [FT, IB, EvOk, E.b, E.i, E.v, Env.ext, evL]; omega
theorem backward_spec (h : HV G f s w o n k F S W O) : ∃ X, Tab X ((List.range o.length).map (bwR G s w o n)) ∧ Fn prog backward.f [wm G F S W O] X := by
 have mo : (wm G F S W O).get 1 = O := rfl
 obtain ⟨lf, ls, lw, lo⟩ := h.lens
 have hlo := h.so.l8
 have hl1 := h.so.l1
 have loop : ∀ (q : Nat) (b0 out : V), q ≤ o.length → (q = 0 ∨ ∃ t, q = t + 1 ∧ b0 = bnx G s w o n t) → Down o.length q (bwR G s w o n) out → ∃ X, Tab X ((List.range o.length).map (bwR G s w o n)) ∧ Comes backward.K backward.f backward.s1 ⟨[(q : Int) - 1], [], [wm G F S W O, b0, out]⟩ X := by
  intro q
  induction q with
  | zero =>
   intro b0 out hq hb hu
   refine ⟨out, hu.tab, Comes.last progOk backward.p2 [] ?_ ?_⟩
   ·simp only [FT, IB, EvOk, E.b, E.i, E.v, Env.ext, evL]; omega
   ·simp only [FT, IB, EvOk, E.b, E.i, E.v, Env.ext, evL]
  | succ q ih =>
   intro b0 out hq hb hu
   rcases hb with hb | ⟨t, ht, rfl⟩
   ·omega
   obtain rfl : q = t := by omega
   have e : bnx G s w o n (q - 1) = lz (bwR G s w o n q) ∨ q = 0 := by
    by_cases h0 : q = 0
    ·exact .inr h0
    ·left; unfold bnx; rw [if_pos (by omega), show q - 1 + 1 = q by omega]
   obtain ⟨X, q1, q2⟩ := ih (lz (bwR G s w o n q)) _ (by omega) (by
    rcases e with e | e
    ·by_cases h0 : q = 0
     ·exact .inl h0
     ·exact .inr ⟨q - 1, by omega, e.symm⟩
    ·exact .inl e) (hu.put (by omega) (lz_zs _))
   refine ⟨X, q1, ?_⟩
   rw [show ((q + 1 : Nat) : Int) - 1 = (q : Int) by omega]
   exact backward_row h (by omega) hu q2
 obtain ⟨X, q1, q2⟩ := loop o.length .nil (V.rep (o.length : Int) .nil) (by omega) (.inr ⟨o.length - 1, by omega, by unfold bnx; rw [if_neg (by omega)]⟩) (down0 _ _)
 refine ⟨X, q1, Fn.of (C := backward.K) backward.b (Comes.step progOk backward.p0 [] ?_ ?_)⟩
 ·simp only [FT, IB, EvOk, E.b, E.i, E.v, Env.ext, evL]; rw [mo, lo]; omega
 ·simp only [Sub.ev, E.v, E.i, Env.ext, List.map_cons, List.map_nil, evL]
  rw [mo, lo]
  exact q2
end
end X
namespace X
open Go Go.Abs Go.Sym
def inK (k : Int) (x : Int) : Bool := decide (-1 ≤ x ∧ x < k)
def seenOk (o : List Int) (k : Int) : Bool := o.all (inK k) && decide (1 ≤ o.length ∧ o.length ≤ 8)
def code17 (G : Int) (f : List Int) (s w : List (List Int)) (o : List Int) : Int := if okH G f s w = false then 170 else if seenOk o (hdl w) then 0 else 2
section
variable {G : Int} {f : List Int} {s w : List (List Int)} {F S W O : V} {o : List Int}
theorem inK_true {k x : Int} (h1 : -1 ≤ x) (h2 : x < k) : inK k x = true := decide_eq_true ⟨h1, h2⟩
theorem inK_lo {k x : Int} (h : x < -1) : inK k x = false := decide_eq_false (by omega)
theorem inK_hi {k x : Int} (h : k ≤ x) : inK k x = false := decide_eq_false (by omega)
theorem okH_w (h : okH G f s w = true) : 0 < w.length := by
 obtain ⟨n, k, H⟩ := okH_iff.1 h
 have := H.wl; have := H.n1; omega
def wm0 : V := .list [.list [.int 0, .nil, .nil, .nil], .nil]
theorem watch_spec (M : HMod G F S W f s w) (hO : Zs O o) (hl : o.length ≤ 10) : Fn prog watch.f [hm G F S W, O] (if code17 G f s w o = 0 then .list [wm G F S W O, .int 0] else .list [wm0, .int (code17 G f s w o)]) := by
 have m3 : (hm G F S W).get 3 = W := rfl
 have lw := M.shw.lenI
 have lo := hO.len
 have f1 := hvalid_spec M
 refine Fn.of (C := watch.K) watch.b ?_
 cases h : okH G f s w with
 | false =>
  rw [h] at f1
  have e : code17 G f s w o = 170 := by unfold code17; rw [if_pos h]
  rw [e]
  refine Comes.last progOk watch.p0 [.bool false] ?_ rfl
  simp only [FT, IB, EvOk, E.b, E.i, E.v, Env.ext, evL]; exact f1
 | true =>
  rw [h] at f1
  have hw0 := hd_len M.shw (okH_w h)
  have hwl := okH_w h
  have bad : seenOk o (hdl w) = false → code17 G f s w o = 2 := by
   intro q; unfold code17; rw [if_neg (by simp [h]), q]; rfl
  by_cases a1 : o.length < 1
  ·rw [bad (by unfold seenOk; rw [show decide (1 ≤ o.length ∧ o.length ≤ 8) = false from decide_eq_false (by omega)]; simp)]
   refine Comes.last progOk watch.p1 [.bool true] ?_ rfl
   simp only [FT, IB, EvOk, E.b, E.i, E.v, Env.ext, evL]; rw [lo]; exact ⟨f1, by omega⟩
  by_cases a2 : 8 < o.length
  ·rw [bad (by unfold seenOk; rw [show decide (1 ≤ o.length ∧ o.length ≤ 8) = false from decide_eq_false (by omega)]; simp)]
   refine Comes.last progOk watch.p2 [.bool true] ?_ rfl
   simp only [FT, IB, EvOk, E.b, E.i, E.v, Env.ext, evL]; rw [lo]; exact ⟨f1, by omega, by omega⟩
  have hso : seenOk o (hdl w) = o.all (inK (hdl w)) := by
   unfold seenOk; rw [show decide (1 ≤ o.length ∧ o.length ≤ 8) = true from decide_eq_true ⟨by omega, by omega⟩]; simp
  have loop : ∀ (t i : Nat) (i' : Int), t + i = o.length → i' = i → seenOk o (hdl w) = (o.drop i).all (inK (hdl w)) → Comes watch.K watch.f watch.s1 ⟨[i'], [], [hm G F S W, O, .bool true]⟩ (if code17 G f s w o = 0 then .list [wm G F S W O, .int 0] else .list [wm0, .int (code17 G f s w o)]) := by
   intro t
   induction t with
   | zero =>
    intro i i' ht hi he
    subst hi
    rw [List.drop_eq_nil_of_le (by omega)] at he
    have : code17 G f s w o = 0 := by unfold code17; rw [if_neg (by simp [h]), he]; rfl
    rw [if_pos this]
    refine Comes.last progOk watch.p7 [] ?_ rfl
    simp only [FT, IB, EvOk, E.b, E.i, E.v, Env.ext, evL]; rw [lo]; omega
   | succ t ih =>
    intro i i' ht hi he
    subst hi
    obtain ⟨x, hx⟩ : ∃ e', o[i]? = some e' := ⟨_, List.getElem?_eq_getElem (by omega)⟩
    have gx := hO.get hx
    rw [drop_cons' hx, List.all_cons] at he
    by_cases a : x < -1
    ·rw [inK_lo a] at he
     rw [bad (by rw [he]; rfl)]
     refine Comes.last progOk watch.p4 [] ?_ rfl
     simp only [FT, IB, EvOk, E.b, E.i, E.v, Env.ext, evL]; rw [lo, gx]; omega
    ·by_cases b : (hdl w : Int) ≤ x
     ·rw [inK_hi b] at he
      rw [bad (by rw [he]; rfl)]
      refine Comes.last progOk watch.p5 [] ?_ rfl
      simp only [FT, IB, EvOk, E.b, E.i, E.v, Env.ext, evL]; rw [m3, lo, lw, gx, hw0]; omega
     ·rw [inK_true (by omega) (by omega), Bool.true_and] at he
      refine Comes.step progOk watch.p6 [] ?_ (ih (i + 1) ((i : Int) + 1) (by omega) (by omega) he)
      simp only [FT, IB, EvOk, E.b, E.i, E.v, Env.ext, evL]; rw [m3, lo, lw, gx, hw0]; omega
  refine Comes.step progOk watch.p3 [.bool true] ?_ (loop o.length 0 0 (by omega) rfl (by rw [hso, List.drop_zero]))
  simp only [FT, IB, EvOk, E.b, E.i, E.v, Env.ext, evL]; rw [lo]; exact ⟨f1, by omega, by omega⟩
theorem HOk.hd {n k : Nat} (H : HOk G f s w n k) : hdl w = k := by
 unfold hdl
 cases hw : w with
 | nil => have := H.wl; have := H.n1; rw [hw] at *; simp at *; omega
 | cons a l =>
  have := (rowB_true.1 (H.wr a (by rw [hw]; simp))).1
  simp; omega
theorem HV.code {n k : Nat} (h : HV G f s w o n k F S W O) : code17 G f s w o = 0 := by
 have ho : okH G f s w = true := okH_iff.2 ⟨n, k, h.H⟩
 unfold code17
 rw [if_neg (by simp [ho])]
 have : seenOk o (hdl w) = true := by
  unfold seenOk
  simp only [Bool.and_eq_true, decide_eq_true_eq, List.all_eq_true, inK]
  refine ⟨fun x hx => ?_, h.so.l1, h.so.l8⟩
  rw [h.H.hd]; exact h.so.x x hx
 rw [this]; rfl
theorem HV.mod {n k : Nat} (h : HV G f s w o n k F S W O) : HMod G F S W f s w := h.H.mod h.F h.S h.W
theorem watch_ok {n k : Nat} (h : HV G f s w o n k F S W O) : Fn prog watch.f [hm G F S W, O] (.list [wm G F S W O, .int 0]) := by
 have := watch_spec h.mod h.O (by have := h.so.l8; omega)
 rw [if_pos h.code] at this; exact this
theorem htotal_spec {x : V} {l : List Int} (hx : Zs x l) (hl : l.length ≤ 1000) (h0 : ∀ i, i < l.length → 0 ≤ l.getD i 0) (hs : l.sum ≤ 184884258895036416) : Fn prog htotal.f [x] (.int l.sum) := by
 have xl := hx.len
 rw [← sumR_list] at hs
 have loop : ∀ (t i : Nat) (i' sum : Int), t + i = l.length → i' = i → sum = sumR i (fun i => l.getD i 0) → Comes htotal.K htotal.f htotal.s1 ⟨[sum, i'], [], [x]⟩ (.int l.sum) := by
  intro t
  induction t with
  | zero =>
   intro i i' sum ht hi hsum
   subst hi
   have : i = l.length := by omega
   subst this
   rw [sumR_list] at hsum
   refine Comes.last progOk htotal.p2 [] ?_ ?_
   ·simp only [FT, IB, EvOk, E.b, E.i, E.v, Env.ext, evL]; rw [xl]; omega
   ·simp only [FT, IB, EvOk, E.b, E.i, E.v, Env.ext, evL]; rw [hsum]
  | succ t ih =>
   intro i i' sum ht hi hsum
   subst hi
   have hil : i < l.length := by omega
   have gx := hx.at hil
   have mono := sumR_mono (m := i + 1) (n := l.length) (by omega) h0
   rw [sumR_succ, ← hsum] at mono
   have p0 := sumR_nonneg (n := i) (g := fun i => l.getD i 0) fun j hj => h0 j (by omega)
   rw [← hsum] at p0
   have p1 := h0 i hil
   have nx := ih (i + 1) ((i : Int) + 1) (sum + l.getD i 0) (by omega) (by omega) (by rw [sumR_succ, hsum])
   refine Comes.step progOk htotal.p1 [] ?_ ?_
   ·simp only [FT, IB, EvOk, E.b, E.i, E.v, Env.ext, evL]; rw [xl, gx]; omega
   ·simp only [Sub.ev, E.v, E.i, Env.ext, List.map_cons, List.map_nil, evL]
    rw [gx]; exact nx
 exact Fn.of (C := htotal.K) htotal.b (Comes.step progOk htotal.p0 [] trivial (loop l.length 0 0 0 (by omega) rfl rfl))
end
end X
namespace X
open Go Go.Abs Go.Sym
section
variable {G : Int} {f : List Int} {s w : List (List Int)} {o : List Int} {n k : Nat} {F S W O : V}
def tot (G : Int) (f : List Int) (s w : List (List Int)) (o : List Int) (n : Nat) : Int := sumR n (FW G f s w o n (o.length - 1))
theorem HV.tot (h : HV G f s w o n k F S W O) : 0 ≤ X.tot G f s w o n ∧ X.tot G f s w o n ≤ 184884258895036416 := by
 have h8 := h.so.l8
 have h1 := h.so.l1
 exact ⟨sumR_nonneg fun i hi => h.H.fw_nonneg _ i hi, h.H.fw_tot (by omega)⟩
theorem hlast_spec {x : V} {m : Nat} (hx : x.len = m) (h1 : 1 ≤ m) (h2 : m ≤ 1000) : Fn prog hlast.f [x] (x.get ((m - 1 : Nat) : Int)) := by
 refine Fn.of (C := hlast.K) hlast.b (Comes.last progOk hlast.p0 [] ?_ ?_)
 ·simp only [FT, IB, EvOk, E.b, E.i, E.v, Env.ext, evL]; rw [hx]; omega
 ·simp only [FT, IB, EvOk, E.b, E.i, E.v, Env.ext, evL]; rw [hx, show (m : Int) - 1 = ((m - 1 : Nat) : Int) by omega]
theorem row_at {g : Nat → List Int} {x : V} {T t : Nat} (hX : Tab x ((List.range T).map g)) (ht : t < T) : Zs (x.get (t : Int)) (g t) :=
 hX.row t _ (by rw [List.getElem?_map, List.getElem?_range ht]; rfl)
theorem tab_len {g : Nat → List Int} {x : V} {T : Nat} (hX : Tab x ((List.range T).map g)) : x.len = T := by rw [hX.lenI]; simp
theorem fwR_getD {v t : Nat} (hv : v < n) : (fwR G f s w o n t).getD v 0 = FW G f s w o n t v := by
 have := rowR_get (FW G f s w o n t) hv
 rw [List.getD_eq_getElem?_getD, this]; rfl
theorem last_total (h : HV G f s w o n k F S W O) {Z : V} (hX : Tab Z ((List.range o.length).map (fwR G f s w o n))) : Fn prog hlast.f [Z] (Z.get ((o.length - 1 : Nat) : Int)) ∧ Fn prog htotal.f [Z.get ((o.length - 1 : Nat) : Int)] (.int (X.tot G f s w o n)) := by
 have h8 := h.so.l8
 have h1 := h.so.l1
 have hz := row_at hX (t := o.length - 1) (by omega)
 refine ⟨hlast_spec (tab_len hX) h1 (by omega), ?_⟩
 have hn := h.H.n4
 refine htotal_spec (l := fwR G f s w o n (o.length - 1)) hz (by rw [rowR_len]; omega) (fun i hi => ?_) ?_
 ·rw [rowR_len] at hi
  rw [fwR_getD hi]; exact h.H.fw_nonneg _ i hi
 ·exact h.tot.2
theorem possible_ok (h : HV G f s w o n k F S W O) (h0 : ¬ X.tot G f s w o n = 0) : ∃ Y, Tab Y ((List.range o.length).map (fwR G f s w o n)) ∧ Fn prog possible.f [wm G F S W O] (.list [Y, .int 0]) := by
 obtain ⟨Y, q1, q2⟩ := forward_spec h
 obtain ⟨q3, q4⟩ := last_total h q1
 refine ⟨Y, q1, Fn.of (C := possible.K) possible.b (Comes.last progOk possible.p1 [Y, Y.get ((o.length - 1 : Nat) : Int), .int (X.tot G f s w o n)] ?_ rfl)⟩
 simp only [FT, IB, EvOk, E.b, E.i, E.v, Env.ext, evL]
 exact ⟨q2, q3, q4, h0⟩
theorem possible_zero (h : HV G f s w o n k F S W O) (h0 : X.tot G f s w o n = 0) : Fn prog possible.f [wm G F S W O] (.list [.nil, .int 7]) := by
 obtain ⟨Y, q1, q2⟩ := forward_spec h
 obtain ⟨q3, q4⟩ := last_total h q1
 refine Fn.of (C := possible.K) possible.b (Comes.last progOk possible.p0 [Y, Y.get ((o.length - 1 : Nat) : Int), .int (X.tot G f s w o n)] ?_ rfl)
 simp only [FT, IB, EvOk, E.b, E.i, E.v, Env.ext, evL]
 exact ⟨q2, q3, q4, h0⟩
def cani (a b : Int) : V := can a.toNat b.toNat
theorem MakeI {a b : Int} (ha : 0 ≤ a) (h2 : a ≤ 184884258895036416) (hb : 0 < b) (hb2 : b ≤ 184884258895036416) : Fn prog frac_Make.f [.int a, .int b] (.list [cani a b, .int 0]) := by
 have := Make_spec (n := a.toNat) (d := b.toNat) (by omega) (by unfold big; omega) (by unfold big; omega)
 rw [Int.toNat_of_nonneg ha, Int.toNat_of_nonneg (by omega)] at this
 exact this
theorem OfI {a b : Int} (ha : 0 ≤ a) (h2 : a ≤ 184884258895036416) (hb : 0 < b) (hb2 : b ≤ 184884258895036416) : Fn prog ref01_Of.f [.int a, .int b] (cani a b) := by
 have := of_can (a := a.toNat) (b := b.toNat) (by unfold big; omega) (by unfold big; omega) (by omega)
 rw [Int.toNat_of_nonneg ha, Int.toNat_of_nonneg (by omega)] at this
 exact this
theorem HOk.gpow (H : HOk G f s w n k) {m : Nat} (hm : m ≤ 16) : 1 ≤ G ^ m ∧ G ^ m ≤ 184884258895036416 := ⟨(pow12 H.g1 H.g2 m).2, pow16 H.g1 H.g2 hm⟩
theorem gg {G : Int} (h1 : 1 ≤ G) (h2 : G ≤ 12) : 1 ≤ G * G ∧ G * G ≤ 144 := by
 have a := Int.mul_le_mul h2 h2 (by omega) (by omega : (0 : Int) ≤ 12)
 have b := Int.mul_le_mul h1 h1 (by omega) (by omega : (0 : Int) ≤ G)
 omega
theorem hProb_ok (h : HV G f s w o n k F S W O) : Fn prog hProb.f [hm G F S W, O] (.list [cani (X.tot G f s w o n) (G ^ (2 * o.length)), .int 0]) := by
 obtain ⟨Y, q1, q2⟩ := forward_spec h
 obtain ⟨q3, q4⟩ := last_total h q1
 obtain ⟨t1, t2⟩ := h.tot
 obtain ⟨lf, ls, lw, lo⟩ := h.lens
 have h8 := h.so.l8
 have g1 := h.H.g1
 have g2 := h.H.g2
 obtain ⟨gg1, gg2⟩ := gg g1 g2
 have m0 : ((((V.list [wm G F S W O, .int 0]).get 0).get 0).get 0).toI = G := rfl
 have mo : (((V.list [wm G F S W O, .int 0]).get 0).get 1) = O := rfl
 obtain ⟨pw1, pw2⟩ := h.H.gpow (m := 2 * o.length) (by omega)
 have mk := MakeI (a := X.tot G f s w o n) (b := G ^ (2 * o.length)) t1 (by omega) (by omega) (by omega)
 have loop : ∀ (q t : Nat) (t' a : Int), q + t = o.length → t' = t → a = G ^ (2 * t) → Comes hProb.K hProb.f hProb.s1 ⟨[a, t'], [], [hm G F S W, O, .list [wm G F S W O, .int 0]]⟩ (.list [cani (X.tot G f s w o n) (G ^ (2 * o.length)), .int 0]) := by
  intro q
  induction q with
  | zero =>
   intro t t' a hq ht ha
   have : t = o.length := by omega
   subst ht ha this
   refine Comes.last progOk hProb.p3 [Y, Y.get ((o.length - 1 : Nat) : Int), .int (X.tot G f s w o n), .list [cani (X.tot G f s w o n) (G ^ (2 * o.length)), .int 0]] ?_ rfl
   simp only [FT, IB, EvOk, E.b, E.i, E.v, Env.ext, evL]; rw [mo, lo]
   exact ⟨by omega, q2, q3, q4, mk⟩
  | succ q ih =>
   intro t t' a hq ht ha
   subst ht ha
   have e : G ^ (2 * t) * (G * G) = G ^ (2 * (t + 1)) := by rw [show 2 * (t + 1) = 2 * t + 1 + 1 by omega, Int.pow_succ, Int.pow_succ, Int.mul_assoc]
   obtain ⟨b1, b2⟩ := h.H.gpow (m := 2 * (t + 1)) (by omega)
   refine Comes.step progOk hProb.p2 [] ?_ ?_
   ·simp only [FT, IB, EvOk, E.b, E.i, E.v, Env.ext, evL]; rw [mo, lo, m0, e]; omega
   ·simp only [Sub.ev, E.v, E.i, Env.ext, List.map_cons, List.map_nil, evL]
    rw [m0, e]
    exact ih (t + 1) ((t : Int) + 1) _ (by omega) (by omega) rfl
 refine Fn.of (C := hProb.K) hProb.b (Comes.step progOk hProb.p1 [.list [wm G F S W O, .int 0]] ?_ (loop o.length 0 0 1 (by omega) rfl (by simp)))
 simp only [FT, IB, EvOk, E.b, E.i, E.v, Env.ext, evL]
 exact ⟨watch_ok h, rfl⟩
end
end X
namespace X
open Go Go.Abs Go.Sym
def plist : List V → V
 | [] => .nil
 | a :: l => .list (a :: l)
theorem plist_els (l : List V) : (plist l).els = l := by cases l <;> rfl
theorem plist_len (l : List V) : (plist l).len = l.length := by simp [V.len, plist_els]
theorem plist_snoc (l : List V) (x : V) : (plist l).snoc x = plist (l ++ [x]) := by
 unfold V.snoc; rw [plist_els]
 cases l <;> rfl
theorem plist_get {l : List V} {i : Nat} (h : i < l.length) : (plist l).get (i : Int) = l[i] := by
 rw [get_els (by rw [plist_els]; exact h)]; simp [plist_els]
def shr (l : List Int) (d : Int) : V := plist (l.map fun x => cani x d)
theorem shr_take {l : List Int} {d x : Int} {i : Nat} (h : l[i]? = some x) : (plist ((l.take i).map fun x => cani x d)).snoc (cani x d) = plist ((l.take (i + 1)).map fun x => cani x d) := by
 rw [plist_snoc, take_snoc h, List.map_append]; rfl
section
end
section
variable {G : Int} {f : List Int} {s w : List (List Int)} {o : List Int} {n k : Nat} {F S W O : V}
theorem HOk.fw_zero (H : HOk G f s w n k) {t : Nat} (h0 : sumR n (FW G f s w o n t) = 0) : sumR n (FW G f s w o n (t + 1)) = 0 := by
 have z : ∀ v, v < n → FW G f s w o n t v = 0 := fun v hv => by
  have a := sumR_one (g := FW G f s w o n t) hv fun i hi => H.fw_nonneg t i hi
  have b := H.fw_nonneg (o := o) t v hv
  omega
 have : sumR n (FW G f s w o n (t + 1)) = sumR n (fun _ => 0) := sumR_congr fun v hv => by
  show sumR n (fun u => FW G f s w o n t u * X.si s u v) * _ = 0
  rw [sumR_congr (h := fun _ => 0 * (0 : Int)) fun u hu => by rw [z u hu]; simp, sumR_mul]
  simp
 rw [this]
 have := sumR_mul n (fun _ => 0) 0
 simpa using this
theorem HOk.fw_pos (H : HOk G f s w n k) : ∀ (d t : Nat), 0 < sumR n (FW G f s w o n (t + d)) → 0 < sumR n (FW G f s w o n t)
 | 0, t, h => h
 | d + 1, t, h => by
  refine H.fw_pos d t ?_
  have := sumR_nonneg (n := n) (g := FW G f s w o n (t + d)) fun i hi => H.fw_nonneg _ i hi
  by_cases q : sumR n (FW G f s w o n (t + d)) = 0
  ·have := H.fw_zero q
   rw [show t + (d + 1) = t + d + 1 by omega] at h
   omega
  ·omega
theorem HV.fw_pos (h : HV G f s w o n k F S W O) (h0 : ¬ X.tot G f s w o n = 0) {t : Nat} (ht : t < o.length) : 0 < sumR n (FW G f s w o n t) := by
 have ht0 := h.tot.1
 refine h.H.fw_pos (o := o) (o.length - 1 - t) t ?_
 rw [show t + (o.length - 1 - t) = o.length - 1 by omega]
 show 0 < X.tot G f s w o n
 omega
def fltV (G : Int) (f : List Int) (s w : List (List Int)) (o : List Int) (n T : Nat) : V := plist ((List.range T).map fun t => shr (fwR G f s w o n t) (sumR n (FW G f s w o n t)))
theorem fltV_snoc (T : Nat) : (fltV G f s w o n T).snoc (shr (fwR G f s w o n T) (sumR n (FW G f s w o n T))) = fltV G f s w o n (T + 1) := by
 unfold fltV; rw [plist_snoc, List.range_succ, List.map_append]; rfl
theorem fltV_len (T : Nat) : (fltV G f s w o n T).len = T := by unfold fltV; rw [plist_len]; simp
theorem hFilter_ok (h : HV G f s w o n k F S W O) (h0 : ¬ X.tot G f s w o n = 0) : Fn prog hFilter.f [hm G F S W, O] (.list [fltV G f s w o n o.length, .int 0]) := by
 obtain ⟨Y, q1, q2⟩ := possible_ok h h0
 obtain ⟨lf, ls, lw, lo⟩ := h.lens
 have h8 := h.so.l8
 have hn4 := h.H.n4
 have mo : (((V.list [wm G F S W O, .int 0]).get 0).get 1) = O := rfl
 have mY : (V.list [Y, .int 0]).get 0 = Y := rfl
 have yl := tab_len q1
 have loop : ∀ (q t : Nat) (t' : Int), q + t = o.length → t' = t → Comes hFilter.K hFilter.f hFilter.s1 ⟨[t'], [], [hm G F S W, O, .list [wm G F S W O, .int 0], .list [Y, .int 0], fltV G f s w o n t]⟩ (.list [fltV G f s w o n o.length, .int 0]) := by
  intro q
  induction q with
  | zero =>
   intro t t' hq ht
   have : t = o.length := by omega
   subst ht this
   refine Comes.last progOk hFilter.p4 [] ?_ rfl
   simp only [FT, IB, EvOk, E.b, E.i, E.v, Env.ext, evL]; rw [mo, lo]; omega
  | succ q ih =>
   intro t t' hq ht
   subst ht
   have hto : t < o.length := by omega
   have row := row_at q1 hto
   have rl := row.len
   rw [rowR_len] at rl
   have nx := ih (t + 1) ((t : Int) + 1) (by omega) (by omega)
   rw [← fltV_snoc] at nx
   have pos := h.fw_pos h0 hto
   have tot2 := h.H.fw_tot (o := o) (t := t) (by omega)
   have fl := fltV_len (G := G) (f := f) (s := s) (w := w) (o := o) (n := n) t
   have nn : ∀ v, v < n → 0 ≤ FW G f s w o n t v := fun v hv => h.H.fw_nonneg t v hv
   have mk : ∀ (p v : Nat) (v' : Int), p + v = n → v' = v → Comes hFilter.K hFilter.f hFilter.s3 ⟨[sumR n (FW G f s w o n t), v', (n : Int), (t : Int)], [], [hm G F S W, O, .list [wm G F S W O, .int 0], .list [Y, .int 0], plist (((fwR G f s w o n t).take v).map fun x => cani x (sumR n (FW G f s w o n t))), Y.get (t : Int), fltV G f s w o n t]⟩ (.list [fltV G f s w o n o.length, .int 0]) := by
    intro p
    induction p with
    | zero =>
     intro v v' hp hv
     have : v = n := by omega
     subst hv this
     rw [rowR_take_all]
     refine Comes.step progOk hFilter.p8 [] ?_ nx
     simp only [FT, IB, EvOk, E.b, E.i, E.v, Env.ext, evL]; rw [fl]; omega
    | succ p ihp =>
     intro v v' hp hv
     subst hv
     have hvn : v < n := by omega
     have gx := row.get (rowR_get _ hvn)
     have nx2 := ihp (v + 1) ((v : Int) + 1) (by omega) (by omega)
     rw [← shr_take (rowR_get _ hvn)] at nx2
     have one := sumR_one (g := FW G f s w o n t) hvn nn
     have n0 := nn v hvn
     have cl : (plist (((fwR G f s w o n t).take v).map fun x => cani x (sumR n (FW G f s w o n t)))).len = (v : Int) := by rw [plist_len]; simp [rowR_len]; omega
     refine Comes.step progOk hFilter.p7 [.list [cani (FW G f s w o n t v) (sumR n (FW G f s w o n t)), .int 0]] ?_ nx2
     simp only [FT, IB, EvOk, E.b, E.i, E.v, Env.ext, evL]; rw [rl, cl, gx]
     exact ⟨by omega, by omega, MakeI n0 (by omega) pos tot2, by omega, by omega⟩
   have m0 := mk n 0 0 (by omega) rfl
   have sm : ∀ (p v : Nat) (v' a : Int), p + v = n → v' = v → a = sumR v (FW G f s w o n t) → Comes hFilter.K hFilter.f hFilter.s2 ⟨[a, v', (n : Int), (t : Int)], [], [hm G F S W, O, .list [wm G F S W O, .int 0], .list [Y, .int 0], Y.get (t : Int), fltV G f s w o n t]⟩ (.list [fltV G f s w o n o.length, .int 0]) := by
    intro p
    induction p with
    | zero =>
     intro v v' a hp hv ha
     have : v = n := by omega
     subst hv this
     subst ha
     refine Comes.step progOk hFilter.p6 [] ?_ ?_
     ·simp only [FT, IB, EvOk, E.b, E.i, E.v, Env.ext, evL]; omega
     ·simp only [Sub.ev, E.v, E.i, Env.ext, List.map_cons, List.map_nil, evL]
      rw [rl]
      exact m0
    | succ p ihp =>
     intro v v' a hp hv ha
     subst hv
     have hvn : v < n := by omega
     have gx := row.get (rowR_get _ hvn)
     have mono := sumR_mono (g := FW G f s w o n t) (m := v + 1) (n := n) (by omega) nn
     rw [sumR_succ, ← ha] at mono
     have p0 := sumR_nonneg (n := v) (g := FW G f s w o n t) fun i hi => nn i (by omega)
     rw [← ha] at p0
     have p1 := nn v hvn
     have nx2 := ihp (v + 1) ((v : Int) + 1) (a + FW G f s w o n t v) (by omega) (by omega) (by rw [sumR_succ, ha])
     refine Comes.step progOk hFilter.p5 [] ?_ ?_
     ·simp only [FT, IB, EvOk, E.b, E.i, E.v, Env.ext, evL]; rw [rl, gx]; omega
     ·simp only [Sub.ev, E.v, E.i, Env.ext, List.map_cons, List.map_nil, evL]
      rw [gx]; exact nx2
   have s0 := sm n 0 0 0 (by omega) rfl rfl
   refine Comes.step progOk hFilter.p3 [] ?_ ?_
   ·simp only [FT, IB, EvOk, E.b, E.i, E.v, Env.ext, evL]; rw [mo, mY, lo, yl]; omega
   ·simp only [Sub.ev, E.v, E.i, Env.ext, List.map_cons, List.map_nil, evL]
    rw [mY, rl]
    exact s0
 refine Fn.of (C := hFilter.K) hFilter.b (Comes.step progOk hFilter.p2 [.list [wm G F S W O, .int 0], .list [Y, .int 0]] ?_ (loop o.length 0 0 (by omega) rfl))
 simp only [FT, IB, EvOk, E.b, E.i, E.v, Env.ext, evL]
 exact ⟨watch_ok h, rfl, q2, rfl⟩
theorem hFilter_zero (h : HV G f s w o n k F S W O) (h0 : X.tot G f s w o n = 0) : Fn prog hFilter.f [hm G F S W, O] (.list [.nil, .int 7]) := by
 refine Fn.of (C := hFilter.K) hFilter.b (Comes.last progOk hFilter.p1 [.list [wm G F S W O, .int 0], .list [.nil, .int 7]] ?_ rfl)
 simp only [FT, IB, EvOk, E.b, E.i, E.v, Env.ext, evL]
 exact ⟨watch_ok h, rfl, possible_zero h h0, by decide⟩
end
end X
namespace X
open Go Go.Abs Go.Sym
section
variable {G : Int} {f : List Int} {s w : List (List Int)} {o : List Int} {n k : Nat} {F S W O : V}
theorem meet_step {t : Nat} (ht : t + 1 < o.length) : sumR n (fun v => FW G f s w o n t v * BT G s w o n t v) = sumR n (fun v => FW G f s w o n (t + 1) v * BT G s w o n (t + 1) v) := by
 have e1 : sumR n (fun v => FW G f s w o n t v * BT G s w o n t v) = sumR n (fun v => sumR n (fun u => FW G f s w o n t v * (si s v u * sh G w o (t + 1) u * BT G s w o n (t + 1) u))) :=
  sumR_congr fun v hv => by rw [BT_step ht, sumR_mul']
 rw [e1, sumR_swap]
 refine sumR_congr fun u hu => ?_
 show _ = sumR n (fun v => FW G f s w o n t v * si s v u) * sh G w o (t + 1) u * BT G s w o n (t + 1) u
 rw [Int.mul_assoc, ← sumR_mul]
 refine sumR_congr fun v hv => ?_
 simp only [Int.mul_assoc]
theorem meet_last (h1 : 1 ≤ o.length) : sumR n (fun v => FW G f s w o n (o.length - 1) v * BT G s w o n (o.length - 1) v) = tot G f s w o n := by
 unfold tot
 refine sumR_congr fun v hv => ?_
 rw [BT_last (by omega), Int.mul_one]
theorem meet (h1 : 1 ≤ o.length) : ∀ (d t : Nat), t + d + 1 = o.length → sumR n (fun v => FW G f s w o n t v * BT G s w o n t v) = tot G f s w o n
 | 0, t, h => by
  have : t = o.length - 1 := by omega
  subst this; exact meet_last h1
 | d + 1, t, h => by rw [meet_step (by omega)]; exact meet h1 d (t + 1) (by omega)
end
end X
namespace X
open Go Go.Abs Go.Sym
section
variable {G : Int} {f : List Int} {s w : List (List Int)} {o : List Int} {n k : Nat} {F S W O : V}
def smF (G : Int) (f : List Int) (s w : List (List Int)) (o : List Int) (n t v : Nat) : Int := FW G f s w o n t v * BT G s w o n t v
abbrev smR (G : Int) (f : List Int) (s w : List (List Int)) (o : List Int) (n t : Nat) : List Int := rowR n (smF G f s w o n t)
def smV (G : Int) (f : List Int) (s w : List (List Int)) (o : List Int) (n T : Nat) : V := plist ((List.range T).map fun t => shr (smR G f s w o n t) (tot G f s w o n))
theorem smV_snoc (T : Nat) : (smV G f s w o n T).snoc (shr (smR G f s w o n T) (tot G f s w o n)) = smV G f s w o n (T + 1) := by
 unfold smV; rw [plist_snoc, List.range_succ, List.map_append]; rfl
theorem smV_len (T : Nat) : (smV G f s w o n T).len = T := by unfold smV; rw [plist_len]; simp
structure Prs (n i : Nat) (a b : Nat → Int) (x : V) : Prop where
 len : x.els.length = n
 at_ : ∀ j, j < i → x.get (j : Int) = .list [.int (a j), .int (b j)]
theorem Prs.lenI {n i : Nat} {a b : Nat → Int} {x : V} (h : Prs n i a b x) : x.len = (n : Int) := by simp [V.len, h.len]
theorem Prs.put {n i : Nat} {a b : Nat → Int} {x : V} (h : Prs n i a b x) (hi : i < n) : Prs n (i + 1) a b (x.set (i : Int) (.list [.int (a i), .int (b i)])) := by
 have hl : i < x.els.length := by rw [h.len]; exact hi
 refine ⟨by simp [V.set, els_list, h.len], fun j hj => ?_⟩
 rw [set_at hl]
 by_cases q : j = i
 ·rw [if_pos q, q]
 ·rw [if_neg q]; exact h.at_ j (by omega)
theorem prs0 (n : Nat) (a b : Nat → Int) (y : V) : Prs n 0 a b (V.rep (n : Int) y) := ⟨by simp [V.rep, els_list], fun j hj => by omega⟩
theorem rep_len (n : Nat) (y : V) : (V.rep (n : Int) y).len = n := by simp [V.rep, V.len, els_list]
theorem sm_facts (h : HV G f s w o n k F S W O) {t : Nat} (ht : t < o.length) : sumR n (smF G f s w o n t) = X.tot G f s w o n ∧ ∀ v, v < n → 0 ≤ smF G f s w o n t v := by
 refine ⟨meet h.so.l1 (o.length - 1 - t) t (by omega), fun v hv => Int.mul_nonneg (h.H.fw_nonneg t v hv) (h.H.bt_nonneg t hv)⟩
theorem smooth_make (h : HV G f s w o n k F S W O) (h0 : ¬ X.tot G f s w o n = 0) {t : Nat} (ht : t < o.length) {v0 v1 v2 v3 v4 st out r : V} (hst : Prs n n (FW G f s w o n t) (BT G s w o n t) st) {L : Int} (hol : out.len = (t : Int))
  (nx : Comes hSmooth.K hSmooth.f hSmooth.s1 ⟨[(t : Int) + 1], [], [v0, v1, v2, v3, v4, out.snoc (shr (smR G f s w o n t) (X.tot G f s w o n))]⟩ r) :
  Comes hSmooth.K hSmooth.f hSmooth.s3 ⟨[(n : Int), 0, 0, (t : Int)], [], [v0, v1, v2, v3, v4, st, out]⟩ r := by
 have h8 := h.so.l8
 have hn4 := h.H.n4
 obtain ⟨mt, nn⟩ := sm_facts h ht
 obtain ⟨t1, t2⟩ := h.tot
 have stl := hst.lenI
 have g0 : ∀ v, v < n → ((st.get (v : Int)).get 0).toI = FW G f s w o n t v := fun v hv => by rw [hst.at_ v hv]; rfl
 have g1 : ∀ v, v < n → ((st.get (v : Int)).get 1).toI = BT G s w o n t v := fun v hv => by rw [hst.at_ v hv]; rfl
 have mk : ∀ (p v : Nat) (v' : Int), p + v = n → v' = v → Comes hSmooth.K hSmooth.f hSmooth.s4 ⟨[(n : Int), X.tot G f s w o n, v', (t : Int)], [], [v0, v1, v2, v3, v4, st, plist (((smR G f s w o n t).take v).map fun x => cani x (X.tot G f s w o n)), out]⟩ r := by
  intro p
  induction p with
  | zero =>
   intro v v' hp hv
   have : v = n := by omega
   subst hv this
   rw [rowR_take_all]
   refine Comes.step progOk hSmooth.p10 [] ?_ nx
   simp only [FT, IB, EvOk, E.b, E.i, E.v, Env.ext, evL]; rw [stl, hol]; omega
  | succ p ihp =>
   intro v v' hp hv
   subst hv
   have hvn : v < n := by omega
   have nx2 := ihp (v + 1) ((v : Int) + 1) (by omega) (by omega)
   rw [← shr_take (rowR_get _ hvn)] at nx2
   have one := sumR_one (g := smF G f s w o n t) hvn nn
   rw [mt] at one
   have n0 := nn v hvn
   have cl : (plist (((smR G f s w o n t).take v).map fun x => cani x (X.tot G f s w o n))).len = (v : Int) := by rw [plist_len]; simp [rowR_len]; omega
   have e : FW G f s w o n t v * BT G s w o n t v = smF G f s w o n t v := rfl
   refine Comes.step progOk hSmooth.p9 [.list [cani (smF G f s w o n t v) (X.tot G f s w o n), .int 0]] ?_ nx2
   simp only [FT, IB, EvOk, E.b, E.i, E.v, Env.ext, evL]; rw [stl, cl, g0 v hvn, g1 v hvn, e]
   exact ⟨by omega, by omega, by omega, by omega, MakeI n0 (by omega) (by omega) t2, by omega, by omega⟩
 have sm : ∀ (p v : Nat) (v' a : Int), p + v = n → v' = v → a = sumR v (smF G f s w o n t) → Comes hSmooth.K hSmooth.f hSmooth.s3 ⟨[(n : Int), a, v', (t : Int)], [], [v0, v1, v2, v3, v4, st, out]⟩ r := by
  intro p
  induction p with
  | zero =>
   intro v v' a hp hv ha
   have : v = n := by omega
   subst hv this
   rw [mt] at ha
   subst ha
   refine Comes.step progOk hSmooth.p8 [] ?_ (mk v 0 0 (by omega) rfl)
   simp only [FT, IB, EvOk, E.b, E.i, E.v, Env.ext, evL]; omega
  | succ p ihp =>
   intro v v' a hp hv ha
   subst hv
   have hvn : v < n := by omega
   have mono := sumR_mono (g := smF G f s w o n t) (m := v + 1) (n := n) (by omega) nn
   rw [sumR_succ, ← ha, mt] at mono
   have p0 := sumR_nonneg (n := v) (g := smF G f s w o n t) fun i hi => nn i (by omega)
   rw [← ha] at p0
   have p1 := nn v hvn
   have e : FW G f s w o n t v * BT G s w o n t v = smF G f s w o n t v := rfl
   have nx2 := ihp (v + 1) ((v : Int) + 1) (a + smF G f s w o n t v) (by omega) (by omega) (by rw [sumR_succ, ha])
   refine Comes.step progOk hSmooth.p7 [] ?_ ?_
   ·simp only [FT, IB, EvOk, E.b, E.i, E.v, Env.ext, evL]; rw [stl, g0 v hvn, g1 v hvn, e]; omega
   ·simp only [Sub.ev, E.v, E.i, Env.ext, List.map_cons, List.map_nil, evL]
    rw [g0 v hvn, g1 v hvn, e]; exact nx2
 exact sm n 0 0 0 (by omega) rfl rfl
theorem hSmooth_ok (h : HV G f s w o n k F S W O) (h0 : ¬ X.tot G f s w o n = 0) : Fn prog hSmooth.f [hm G F S W, O] (.list [smV G f s w o n o.length, .int 0]) := by
 obtain ⟨Y, q1, q2⟩ := possible_ok h h0
 obtain ⟨Z, z1, z2⟩ := backward_spec h
 obtain ⟨lf, ls, lw, lo⟩ := h.lens
 have h8 := h.so.l8
 have hn4 := h.H.n4
 have mo : (((V.list [wm G F S W O, .int 0]).get 0).get 1) = O := rfl
 have mY : (V.list [Y, .int 0]).get 0 = Y := rfl
 have yl := tab_len q1
 have zl := tab_len z1
 have loop : ∀ (q t : Nat) (t' : Int), q + t = o.length → t' = t → Comes hSmooth.K hSmooth.f hSmooth.s1 ⟨[t'], [], [hm G F S W, O, .list [wm G F S W O, .int 0], .list [Y, .int 0], Z, smV G f s w o n t]⟩ (.list [smV G f s w o n o.length, .int 0]) := by
  intro q
  induction q with
  | zero =>
   intro t t' hq ht
   have : t = o.length := by omega
   subst ht this
   refine Comes.last progOk hSmooth.p4 [] ?_ rfl
   simp only [FT, IB, EvOk, E.b, E.i, E.v, Env.ext, evL]; rw [mo, lo]; omega
  | succ q ih =>
   intro t t' hq ht
   subst ht
   have hto : t < o.length := by omega
   have row := row_at q1 hto
   have rl := row.len
   rw [rowR_len] at rl
   have rowz := row_at z1 hto
   have rzl := rowz.len
   rw [rowR_len] at rzl
   have nx := ih (t + 1) ((t : Int) + 1) (by omega) (by omega)
   rw [← smV_snoc] at nx
   have sl := smV_len (G := G) (f := f) (s := s) (w := w) (o := o) (n := n) t
   have fill : ∀ (p v : Nat) (v' : Int) (st : V), p + v = n → v' = v → Prs n v (FW G f s w o n t) (BT G s w o n t) st → Comes hSmooth.K hSmooth.f hSmooth.s2 ⟨[v', (t : Int), (n : Int)], [], [hm G F S W, O, .list [wm G F S W O, .int 0], .list [Y, .int 0], Z, st, smV G f s w o n t]⟩ (.list [smV G f s w o n o.length, .int 0]) := by
    intro p
    induction p with
    | zero =>
     intro v v' st hp hv hst
     have : v = n := by omega
     subst hv this
     have := smooth_make h h0 hto (L := 0) hst sl nx
     refine Comes.step progOk hSmooth.p6 [] ?_ ?_
     ·simp only [FT, IB, EvOk, E.b, E.i, E.v, Env.ext, evL]; omega
     ·simp only [Sub.ev, E.v, E.i, Env.ext, List.map_cons, List.map_nil, evL]
      rw [hst.lenI]; exact this
    | succ p ihp =>
     intro v v' st hp hv hst
     subst hv
     have hvn : v < n := by omega
     have gx := row.get (rowR_get _ hvn)
     have gz := rowz.get (rowR_get _ hvn)
     have nx2 := ihp (v + 1) ((v : Int) + 1) _ (by omega) (by omega) (hst.put hvn)
     refine Comes.step progOk hSmooth.p5 [] ?_ ?_
     ·simp only [FT, IB, EvOk, E.b, E.i, E.v, Env.ext, evL]; rw [mY, yl, zl, rl, rzl, hst.lenI]; omega
     ·simp only [Sub.ev, E.v, E.i, Env.ext, List.map_cons, List.map_nil, evL]
      rw [mY, gx, gz]
      exact nx2
   have s0 := fill n 0 0 _ (by omega) rfl (prs0 n _ _ (.list [.int 0, .int 0]))
   refine Comes.step progOk hSmooth.p3 [] ?_ ?_
   ·simp only [FT, IB, EvOk, E.b, E.i, E.v, Env.ext, evL]; rw [mo, mY, lo, yl, rl]; omega
   ·simp only [Sub.ev, E.v, E.i, Env.ext, List.map_cons, List.map_nil, evL]
    rw [mY, rl, rep_len]
    exact s0
 refine Fn.of (C := hSmooth.K) hSmooth.b (Comes.step progOk hSmooth.p2 [.list [wm G F S W O, .int 0], .list [Y, .int 0], Z] ?_ (loop o.length 0 0 (by omega) rfl))
 simp only [FT, IB, EvOk, E.b, E.i, E.v, Env.ext, evL]
 exact ⟨watch_ok h, rfl, q2, rfl, z2⟩
theorem hSmooth_zero (h : HV G f s w o n k F S W O) (h0 : X.tot G f s w o n = 0) : Fn prog hSmooth.f [hm G F S W, O] (.list [.nil, .int 7]) := by
 refine Fn.of (C := hSmooth.K) hSmooth.b (Comes.last progOk hSmooth.p1 [.list [wm G F S W O, .int 0], .list [.nil, .int 7]] ?_ rfl)
 simp only [FT, IB, EvOk, E.b, E.i, E.v, Env.ext, evL]
 exact ⟨watch_ok h, rfl, possible_zero h h0, by decide⟩
end
end X
namespace X
open Go Go.Abs Go.Sym
section
variable {G : Int} {f : List Int} {s w : List (List Int)} {o : List Int} {n k : Nat} {F S W O : V}
def NW (G : Int) (f : List Int) (s w : List (List Int)) (o : List Int) (n : Nat) : Nat → Nat → Int
 | 0, v => FW G f s w o n (o.length - 1) v
 | j + 1, v => sumR n (fun r => NW G f s w o n j r * si s r v)
theorem HOk.nw_nonneg (H : HOk G f s w n k) : ∀ j v, v < n → 0 ≤ NW G f s w o n j v
 | 0, v, hv => H.fw_nonneg _ v hv
 | j + 1, v, hv => sumR_nonneg fun r hr => Int.mul_nonneg (H.nw_nonneg j r hr) (H.si hr v).1
theorem HOk.nw_sum (H : HOk G f s w n k) : ∀ j, sumR n (NW G f s w o n j) = X.tot G f s w o n * G ^ j
 | 0 => by rw [Int.pow_zero, Int.mul_one]; rfl
 | j + 1 => by
  show sumR n (fun v => sumR n (fun r => NW G f s w o n j r * X.si s r v)) = _
  rw [sumR_swap]
  have : sumR n (fun r => sumR n (fun v => NW G f s w o n j r * X.si s r v)) = sumR n (fun r => NW G f s w o n j r * G) :=
   sumR_congr fun r hr => by rw [sumR_mul' n (fun v => X.si s r v), H.si_sum hr]
  rw [this, sumR_mul, H.nw_sum j, Int.pow_succ, Int.mul_assoc]
theorem HV.nw_le (h : HV G f s w o n k F S W O) {j : Nat} (hj : o.length + j ≤ 8) : sumR n (NW G f s w o n j) ≤ 184884258895036416 := by
 have l1 := h.so.l1
 have g1 := h.H.g1
 rw [h.H.nw_sum]
 have a : X.tot G f s w o n ≤ G ^ (2 * (o.length - 1) + 2) := h.H.fw_sum _
 have b := (pow12 g1 h.H.g2 j).2
 have c := Int.mul_le_mul_of_nonneg_right a (by omega : 0 ≤ G ^ j)
 rw [← Int.pow_add] at c
 have d := pow16 g1 h.H.g2 (m := 2 * (o.length - 1) + 2 + j) (by omega)
 omega
theorem HV.nw_pos (h : HV G f s w o n k F S W O) (h0 : ¬ X.tot G f s w o n = 0) (j : Nat) : 0 < sumR n (NW G f s w o n j) := by
 rw [h.H.nw_sum]
 have b := (pow12 h.H.g1 h.H.g2 j).2
 have := h.tot.1
 exact Int.mul_pos (by omega) (by omega)
theorem rowR_congr {n : Nat} {g g' : Nat → Int} (h : ∀ v, v < n → g v = g' v) : rowR n g = rowR n g' := by
 unfold rowR; apply List.map_congr_left; intro v hv; exact h v (List.mem_range.1 hv)
theorem rowR_set (n : Nat) (g : Nat → Int) (u : Nat) (a : Int) : (rowR n g).set u a = rowR n (fun v => if v = u then a else g v) := by
 apply List.ext_getElem?
 intro i
 by_cases hi : i < n
 ·rw [List.getElem?_set, rowR_get _ hi]
  by_cases q : u = i
  ·subst q; rw [if_pos rfl, if_pos (by rw [rowR_len]; exact hi), rowR_get _ hi, if_pos rfl]
  ·rw [if_neg q, rowR_get _ hi, if_neg (by omega)]
 ·rw [List.getElem?_eq_none (by rw [List.length_set, rowR_len]; omega), List.getElem?_eq_none (by rw [rowR_len]; omega)]
def prV (G : Int) (f : List Int) (s w : List (List Int)) (o : List Int) (n j : Nat) : V := shr (rowR n (NW G f s w o n j)) (sumR n (NW G f s w o n j))
def nwP (G : Int) (f : List Int) (s w : List (List Int)) (o : List Int) (n j r v : Nat) : Int := sumR r (fun q => NW G f s w o n j q * si s q v)
theorem nwP_le (h : HV G f s w o n k F S W O) {j r v : Nat} (hj : o.length + (j + 1) ≤ 8) (hr : r ≤ n) (hv : v < n) : 0 ≤ nwP G f s w o n j r v ∧ nwP G f s w o n j r v ≤ 184884258895036416 := by
 have nn : ∀ q, q < n → 0 ≤ NW G f s w o n j q * si s q v := fun q hq => Int.mul_nonneg (h.H.nw_nonneg j q hq) (h.H.si hq v).1
 refine ⟨sumR_nonneg fun q hq => nn q (by omega), ?_⟩
 have a : nwP G f s w o n j r v ≤ NW G f s w o n (j + 1) v := sumR_mono hr nn
 have b := sumR_one (g := NW G f s w o n (j + 1)) hv fun i hi => h.H.nw_nonneg (j + 1) i hi
 have c := h.nw_le hj
 omega
theorem predict_step (h : HV G f s w o n k F S W O) {j : Nat} (hj : o.length + (j + 1) ≤ 8) {v2 v4 v5 now r : V} (hnow : Zs now (rowR n (NW G f s w o n j)))
  (nx : ∀ next, Zs next (rowR n (NW G f s w o n (j + 1))) → Comes hPredict.K hPredict.f hPredict.s1 ⟨[(j : Int) + 1], [], [hm G F S W, O, v2, .list [wm G F S W O, .int 0], v4, v5, next]⟩ r) :
  ∀ (p q : Nat) (q' : Int) (next : V), p + q = n → q' = q → Zs next (rowR n (nwP G f s w o n j q)) → Comes hPredict.K hPredict.f hPredict.s2 ⟨[q', (j : Int), (n : Int)], [], [hm G F S W, O, v2, .list [wm G F S W O, .int 0], v4, v5, next, now]⟩ r := by
 have m2 : ((((V.list [wm G F S W O, .int 0]).get 0).get 0).get 2) = S := rfl
 obtain ⟨lf, ls, lw, lo⟩ := h.lens
 have hn4 := h.H.n4
 have nl := hnow.len
 rw [rowR_len] at nl
 intro p
 induction p with
 | zero =>
  intro q q' next hp hq hz
  have : q = n := by omega
  subst hq this
  refine Comes.step progOk hPredict.p8 [] ?_ (nx next hz)
  simp only [FT, IB, EvOk, E.b, E.i, E.v, Env.ext, evL]; have := h.so.l1; omega
 | succ p ihp =>
  intro q q' next hp hq hz
  subst hq
  have hqn : q < n := by omega
  have gq := hnow.get (rowR_get _ hqn)
  have srow : (S.get (q : Int)).len = n := (h.si (u := q) (v := q) hqn hqn).2
  have inner : ∀ (b u : Nat) (u' : Int) (next : V), b + u = n → u' = u → Zs next (rowR n (fun v => if v < u then nwP G f s w o n j (q + 1) v else nwP G f s w o n j q v)) → Comes hPredict.K hPredict.f hPredict.s4 ⟨[u', NW G f s w o n j q, (j : Int), (n : Int), (q : Int), (n : Int)], [], [hm G F S W, O, v2, .list [wm G F S W O, .int 0], v4, v5, next, now, S.get (q : Int)]⟩ r := by
   intro b
   induction b with
   | zero =>
    intro u u' next hb hu hz
    have : u = n := by omega
    subst hu this
    have nx2 := ihp (q + 1) ((q : Int) + 1) next (by omega) (by omega) (by
     rw [rowR_congr (g' := fun v => if v < u then nwP G f s w o u j (q + 1) v else nwP G f s w o u j q v) fun v hv => by simp only [if_pos hv]]
     exact hz)
    refine Comes.step progOk hPredict.p12 [] ?_ nx2
    simp only [FT, IB, EvOk, E.b, E.i, E.v, Env.ext, evL]; omega
   | succ b ihb =>
    intro u u' next hb hu hz
    subst hu
    have hun : u < n := by omega
    have gu := hz.get (rowR_get _ hun)
    simp only [Nat.lt_irrefl, if_false] at gu
    have zl := hz.len
    rw [rowR_len] at zl
    obtain ⟨s1, s2⟩ := h.si (u := q) (v := u) hqn hun
    obtain ⟨a1, a2⟩ := nwP_le h hj (r := q) (by omega) hun
    obtain ⟨b1, b2⟩ := nwP_le h hj (r := q + 1) (by omega) hun
    have e : nwP G f s w o n j q u + NW G f s w o n j q * si s q u = nwP G f s w o n j (q + 1) u := by unfold nwP; rw [sumR_succ]
    have c1 : 0 ≤ NW G f s w o n j q * si s q u := Int.mul_nonneg (h.H.nw_nonneg j q hqn) (h.H.si hqn u).1
    have hz2 := hz.set u (nwP G f s w o n j (q + 1) u)
    rw [rowR_set, rowR_congr (g' := fun v => if v < u + 1 then nwP G f s w o n j (q + 1) v else nwP G f s w o n j q v) fun v hv => by
     by_cases q1 : v = u
     ·subst q1; simp
     ·by_cases q2 : v < u
      ·rw [if_neg q1, if_pos q2, if_pos (by omega)]
      ·rw [if_neg q1, if_neg q2, if_neg (by omega)]] at hz2
    have nx2 := ihb (u + 1) ((u : Int) + 1) _ (by omega) (by omega) hz2
    refine Comes.step progOk hPredict.p11 [] ?_ ?_
    ·simp only [FT, IB, EvOk, E.b, E.i, E.v, Env.ext, evL]; rw [zl, gu, s1, s2, e]; omega
    ·simp only [Sub.ev, E.v, E.i, Env.ext, List.map_cons, List.map_nil, evL]
     rw [gu, s1, e]
     exact nx2
  have i0 := inner n 0 0 next (by omega) rfl (by
   rw [rowR_congr (g' := nwP G f s w o n j q) fun v hv => by simp]
   exact hz)
  refine Comes.step progOk hPredict.p7 [] ?_ ?_
  ·simp only [FT, IB, EvOk, E.b, E.i, E.v, Env.ext, evL]; rw [m2, ls, nl]; omega
  ·simp only [Sub.ev, E.v, E.i, Env.ext, List.map_cons, List.map_nil, evL]
   rw [m2, gq, srow]
   exact i0
theorem predict_end (h : HV G f s w o n k F S W O) (h0 : ¬ X.tot G f s w o n = 0) {j : Nat} (hj : o.length + j ≤ 8) {v0 v1 v2 v3 v4 v5 now : V} (hnow : Zs now (rowR n (NW G f s w o n j))) :
  Comes hPredict.K hPredict.f hPredict.s3 ⟨[0, 0, (n : Int)], [], [v0, v1, v2, v3, v4, v5, now]⟩ (.list [prV G f s w o n j, .int 0]) := by
 have hn4 := h.H.n4
 have nl := hnow.len
 rw [rowR_len] at nl
 have pos := h.nw_pos h0 j
 have tot2 := h.nw_le hj
 have nn : ∀ v, v < n → 0 ≤ NW G f s w o n j v := fun v hv => h.H.nw_nonneg j v hv
 have mk : ∀ (p v : Nat) (v' : Int), p + v = n → v' = v → Comes hPredict.K hPredict.f hPredict.s5 ⟨[sumR n (NW G f s w o n j), (n : Int), v'], [], [v0, v1, v2, v3, v4, v5, now, plist (((rowR n (NW G f s w o n j)).take v).map fun x => cani x (sumR n (NW G f s w o n j)))]⟩ (.list [prV G f s w o n j, .int 0]) := by
  intro p
  induction p with
  | zero =>
   intro v v' hp hv
   have : v = n := by omega
   subst hv this
   rw [rowR_take_all]
   refine Comes.last progOk hPredict.p14 [] ?_ rfl
   simp only [FT, IB, EvOk, E.b, E.i, E.v, Env.ext, evL]; omega
  | succ p ihp =>
   intro v v' hp hv
   subst hv
   have hvn : v < n := by omega
   have gx := hnow.get (rowR_get _ hvn)
   have nx2 := ihp (v + 1) ((v : Int) + 1) (by omega) (by omega)
   rw [← shr_take (rowR_get _ hvn)] at nx2
   have one := sumR_one (g := NW G f s w o n j) hvn nn
   have n0 := nn v hvn
   have cl : (plist (((rowR n (NW G f s w o n j)).take v).map fun x => cani x (sumR n (NW G f s w o n j)))).len = (v : Int) := by rw [plist_len]; simp [rowR_len]; omega
   refine Comes.step progOk hPredict.p13 [.list [cani (NW G f s w o n j v) (sumR n (NW G f s w o n j)), .int 0]] ?_ nx2
   simp only [FT, IB, EvOk, E.b, E.i, E.v, Env.ext, evL]; rw [nl, cl, gx]
   exact ⟨by omega, by omega, MakeI n0 (by omega) pos tot2, by omega, by omega⟩
 have sm : ∀ (p v : Nat) (v' a : Int), p + v = n → v' = v → a = sumR v (NW G f s w o n j) → Comes hPredict.K hPredict.f hPredict.s3 ⟨[a, v', (n : Int)], [], [v0, v1, v2, v3, v4, v5, now]⟩ (.list [prV G f s w o n j, .int 0]) := by
  intro p
  induction p with
  | zero =>
   intro v v' a hp hv ha
   have : v = n := by omega
   subst hv this
   subst ha
   refine Comes.step progOk hPredict.p10 [] ?_ ?_
   ·simp only [FT, IB, EvOk, E.b, E.i, E.v, Env.ext, evL]; omega
   ·simp only [Sub.ev, E.v, E.i, Env.ext, List.map_cons, List.map_nil, evL]
    rw [nl]
    exact mk v 0 0 (by omega) rfl
  | succ p ihp =>
   intro v v' a hp hv ha
   subst hv
   have hvn : v < n := by omega
   have gx := hnow.get (rowR_get _ hvn)
   have mono := sumR_mono (g := NW G f s w o n j) (m := v + 1) (n := n) (by omega) nn
   rw [sumR_succ, ← ha] at mono
   have p0 := sumR_nonneg (n := v) (g := NW G f s w o n j) fun i hi => nn i (by omega)
   rw [← ha] at p0
   have p1 := nn v hvn
   have nx2 := ihp (v + 1) ((v : Int) + 1) (a + NW G f s w o n j v) (by omega) (by omega) (by rw [sumR_succ, ha])
   refine Comes.step progOk hPredict.p9 [] ?_ ?_
   ·simp only [FT, IB, EvOk, E.b, E.i, E.v, Env.ext, evL]; rw [nl, gx]; omega
   ·simp only [Sub.ev, E.v, E.i, Env.ext, List.map_cons, List.map_nil, evL]
    rw [gx]; exact nx2
 exact sm n 0 0 0 (by omega) rfl rfl
theorem rep0 (n : Nat) : Zs (V.rep (n : Int) (.int 0)) (rowR n fun _ => 0) := by
 unfold Zs V.rep rowR
 simp [els_list, List.map_const']
theorem hPredict_ok (h : HV G f s w o n k F S W O) (h0 : ¬ X.tot G f s w o n = 0) {m : Nat} (hm8 : o.length + m ≤ 8) : Fn prog hPredict.f [hm G F S W, O, .int m] (.list [prV G f s w o n m, .int 0]) := by
 obtain ⟨Y, q1, q2⟩ := possible_ok h h0
 obtain ⟨q3, q4⟩ := last_total h q1
 obtain ⟨lf, ls, lw, lo⟩ := h.lens
 have l1 := h.so.l1
 have loop : ∀ (q j : Nat) (j' : Int) (now v5 : V), q + j = m → j' = j → Zs now (rowR n (NW G f s w o n j)) → Comes hPredict.K hPredict.f hPredict.s1 ⟨[j'], [], [hm G F S W, O, .int m, .list [wm G F S W O, .int 0], .list [Y, .int 0], v5, now]⟩ (.list [prV G f s w o n m, .int 0]) := by
  intro q
  induction q with
  | zero =>
   intro j j' now v5 hq hj hz
   have : j = m := by omega
   subst hj this
   have nl := hz.len
   rw [rowR_len] at nl
   have e := predict_end h h0 hm8 (v0 := hm G F S W) (v1 := O) (v2 := .int j) (v3 := .list [wm G F S W O, .int 0]) (v4 := .list [Y, .int 0]) (v5 := v5) hz
   refine Comes.step progOk hPredict.p6 [] ?_ ?_
   ·simp only [FT, IB, EvOk, E.b, E.i, E.v, Env.ext, evL]; omega
   ·simp only [Sub.ev, E.v, E.i, Env.ext, List.map_cons, List.map_nil, evL]
    rw [nl]; exact e
  | succ q ih =>
   intro j j' now v5 hq hj hz
   subst hj
   have nl := hz.len
   rw [rowR_len] at nl
   have st := predict_step h (j := j) (by omega) (v2 := .int m) (v4 := .list [Y, .int 0]) (v5 := v5) hz (fun next hn => ih (j + 1) ((j : Int) + 1) next v5 (by omega) (by omega) hn) n 0 0 _ (by omega) rfl (rep0 n)
   refine Comes.step progOk hPredict.p5 [] ?_ ?_
   ·simp only [FT, IB, EvOk, E.b, E.i, E.v, Env.ext, evL]; rw [nl]; have := h.H.n4; omega
   ·simp only [Sub.ev, E.v, E.i, Env.ext, List.map_cons, List.map_nil, evL]
    rw [nl]; exact st
 have hz := row_at q1 (t := o.length - 1) (by omega)
 refine Fn.of (C := hPredict.K) hPredict.b (Comes.step progOk hPredict.p4 [.list [wm G F S W O, .int 0], .list [Y, .int 0], Y.get ((o.length - 1 : Nat) : Int)] ?_ (loop m 0 0 _ _ (by omega) rfl hz))
 simp only [FT, IB, EvOk, E.b, E.i, E.v, Env.ext, evL]
 rw [lo]
 exact ⟨watch_ok h, rfl, by omega, by omega, by omega, q2, rfl, q3⟩
theorem hPredict_zero (h : HV G f s w o n k F S W O) (h0 : X.tot G f s w o n = 0) {m : Int} (h1 : 0 ≤ m) (h2 : m ≤ 8 - o.length) : Fn prog hPredict.f [hm G F S W, O, .int m] (.list [.nil, .int 7]) := by
 obtain ⟨lf, ls, lw, lo⟩ := h.lens
 have l8 := h.so.l8
 refine Fn.of (C := hPredict.K) hPredict.b (Comes.last progOk hPredict.p3 [.list [wm G F S W O, .int 0], .list [.nil, .int 7]] ?_ rfl)
 simp only [FT, IB, EvOk, E.b, E.i, E.v, Env.ext, evL]
 rw [lo]
 exact ⟨watch_ok h, rfl, by omega, by omega, by omega, possible_zero h h0, by decide⟩
end
end X
namespace X
open Go Go.Abs Go.Sym
section
variable {G : Int} {f : List Int} {s w : List (List Int)} {o : List Int} {n k : Nat} {F S W O : V}
theorem cani_scale {a b c : Int} (ha : 0 ≤ a) (hb : 0 < b) (hc : 0 < c) : cani (a * c) (b * c) = cani a b := by
 obtain ⟨x, rfl⟩ : ∃ x : Nat, a = x := ⟨a.toNat, by omega⟩
 obtain ⟨y, rfl⟩ : ∃ x : Nat, b = x := ⟨b.toNat, by omega⟩
 obtain ⟨z, rfl⟩ : ∃ x : Nat, c = x := ⟨c.toNat, by omega⟩
 unfold cani
 rw [show ((x : Int) * (z : Int)).toNat = x * z by rw [← Int.natCast_mul]; rfl, show ((y : Int) * (z : Int)).toNat = y * z by rw [← Int.natCast_mul]; rfl, Int.toNat_natCast, Int.toNat_natCast]
 have y0 : 0 < y := by omega
 have z0 : 0 < z := by omega
 refine can_eq (Nat.mul_pos y0 z0) y0 ?_
 rw [Nat.mul_assoc, Nat.mul_comm z y]
theorem cani_zero {b c : Int} (hb : 0 < b) (hc : 0 < c) : cani 0 b = cani 0 c := by
 unfold cani
 exact can_eq (by omega) (by omega) (by simp)
def more (o : List Int) (j : Nat) : List Int := o ++ List.replicate j (-1)
theorem more_len (o : List Int) (j : Nat) : (more o j).length = o.length + j := by simp [more]
theorem more_lo {t : Nat} (j : Nat) (ht : t < o.length) : (more o j).getD t 0 = o.getD t 0 := by
 unfold more
 rw [List.getD_eq_getElem?_getD, List.getD_eq_getElem?_getD, List.getElem?_append_left ht]
theorem more_hi {t j : Nat} (h1 : o.length ≤ t) (h2 : t < o.length + j) : (more o j).getD t 0 = -1 := by
 unfold more
 rw [List.getD_eq_getElem?_getD, List.getElem?_append_right h1, List.getElem?_replicate, if_pos (by omega)]; rfl
theorem more_sh_lo {t : Nat} (j v : Nat) (ht : t < o.length) : sh G w (more o j) t v = sh G w o t v := by
 unfold sh; rw [more_lo j ht]
theorem more_sh_hi {t j : Nat} (v : Nat) (h1 : o.length ≤ t) (h2 : t < o.length + j) : sh G w (more o j) t v = G := by
 unfold sh; rw [more_hi h1 h2, if_pos (by decide)]
theorem more_fw_lo (j : Nat) : ∀ t v, t < o.length → FW G f s w (more o j) n t v = FW G f s w o n t v
 | 0, v, ht => by show f.getD v 0 * _ = f.getD v 0 * _; rw [more_sh_lo j v ht]
 | t + 1, v, ht => by
  show sumR n (fun u => FW G f s w (more o j) n t u * si s u v) * _ = sumR n (fun u => FW G f s w o n t u * si s u v) * _
  rw [more_sh_lo j v ht]
  congr 1
  exact sumR_congr fun u hu => by rw [more_fw_lo j t u (by omega)]
theorem more_fw_hi (h1 : 1 ≤ o.length) (j : Nat) : ∀ i v, i ≤ j → FW G f s w (more o j) n (o.length - 1 + i) v = NW G f s w o n i v * G ^ i
 | 0, v, hi => by
  rw [Int.pow_zero, Int.mul_one, Nat.add_zero]
  exact more_fw_lo j _ v (by omega)
 | i + 1, v, hi => by
  rw [show o.length - 1 + (i + 1) = (o.length - 1 + i) + 1 by omega]
  show sumR n (fun u => FW G f s w (more o j) n (o.length - 1 + i) u * si s u v) * sh G w (more o j) (o.length - 1 + i + 1) v = sumR n (fun r => NW G f s w o n i r * si s r v) * G ^ (i + 1)
  rw [more_sh_hi v (by omega) (by omega), Int.pow_succ, ← Int.mul_assoc]
  congr 1
  rw [← sumR_mul]
  refine sumR_congr fun u hu => ?_
  rw [more_fw_hi h1 j i u (by omega), Int.mul_assoc, Int.mul_comm (G ^ i), ← Int.mul_assoc]
theorem HV.more (h : HV G f s w o n k F S W O) {j : Nat} (hj : o.length + j ≤ 8) {O' : V} (hO : Zs O' (X.more o j)) : HV G f s w (X.more o j) n k F S W O' := by
 have l1 := h.so.l1
 refine ⟨h.H, ⟨by rw [more_len]; omega, by rw [more_len]; omega, fun x hx => ?_⟩, h.F, h.S, h.W, hO⟩
 unfold X.more at hx
 rcases List.mem_append.1 hx with q | q
 ·exact h.so.x x q
 ·have := (List.mem_replicate.1 q).2
  subst this
  have := h.H.k1
  omega
theorem predict_more (h : HV G f s w o n k F S W O) (h0 : ¬ X.tot G f s w o n = 0) {j : Nat} (hj : o.length + j ≤ 8) : prV G f s w o n j = shr (fwR G f s w (X.more o j) n ((X.more o j).length - 1)) (sumR n (FW G f s w (X.more o j) n ((X.more o j).length - 1))) := by
 have l1 := h.so.l1
 have e : (X.more o j).length - 1 = o.length - 1 + j := by rw [more_len]; omega
 have g := (pow12 h.H.g1 h.H.g2 j).2
 have pos := h.nw_pos h0 j
 rw [e]
 have hs : sumR n (FW G f s w (X.more o j) n (o.length - 1 + j)) = sumR n (NW G f s w o n j) * G ^ j := by
  rw [← sumR_mul]; exact sumR_congr fun v hv => more_fw_hi l1 j j v (Nat.le_refl _)
 rw [hs]
 unfold prV shr fwR rowR
 rw [List.map_map, List.map_map]
 congr 1
 apply List.map_congr_left
 intro v hv
 have hv := List.mem_range.1 hv
 show cani _ _ = cani _ _
 rw [more_fw_hi l1 j j v (Nat.le_refl _)]
 exact (cani_scale (h.H.nw_nonneg j v hv) pos (by omega)).symm
theorem more_tot (h : HV G f s w o n k F S W O) (h0 : ¬ X.tot G f s w o n = 0) {j : Nat} : ¬ X.tot G f s w (X.more o j) n = 0 := by
 have l1 := h.so.l1
 have e : (X.more o j).length - 1 = o.length - 1 + j := by rw [more_len]; omega
 have g := (pow12 h.H.g1 h.H.g2 j).2
 have pos := h.nw_pos h0 j
 unfold X.tot
 rw [e]
 have hs : sumR n (FW G f s w (X.more o j) n (o.length - 1 + j)) = sumR n (NW G f s w o n j) * G ^ j := by
  rw [← sumR_mul]; exact sumR_congr fun v hv => more_fw_hi l1 j j v (Nat.le_refl _)
 rw [hs]
 have := Int.mul_pos pos (show 0 < G ^ j by omega)
 omega
theorem sm_last (h : HV G f s w o n k F S W O) : shr (smR G f s w o n (o.length - 1)) (X.tot G f s w o n) = shr (fwR G f s w o n (o.length - 1)) (X.tot G f s w o n) := by
 have l1 := h.so.l1
 unfold smR fwR
 rw [rowR_congr fun v hv => by show smF G f s w o n (o.length - 1) v = FW G f s w o n (o.length - 1) v; unfold smF; rw [BT_last (by omega), Int.mul_one]]
theorem shr_len (l : List Int) (d : Int) : (shr l d).len = l.length := by unfold shr; rw [plist_len]; simp
theorem fltV_get {T t : Nat} (h : t < T) : (fltV G f s w o n T).get (t : Int) = shr (fwR G f s w o n t) (sumR n (FW G f s w o n t)) := by
 unfold fltV; rw [plist_get (by simpa using h)]; simp
theorem smV_get {T t : Nat} (h : t < T) : (smV G f s w o n T).get (t : Int) = shr (smR G f s w o n t) (tot G f s w o n) := by
 unfold smV; rw [plist_get (by simpa using h)]; simp
theorem equalQ_refl (a : V) (h : a.len ≤ 1000) : Fn prog equalQ.f [a, a] (.bool true) := by
 obtain ⟨m, hm⟩ : ∃ m : Nat, a.len = m := ⟨a.els.length, rfl⟩
 rw [hm] at h
 have loop : ∀ (t i : Nat) (i' : Int), t + i = m → i' = i → Comes equalQ.K equalQ.f equalQ.s1 ⟨[i'], [], [a, a]⟩ (.bool true) := by
  intro t
  induction t with
  | zero =>
   intro i i' ht hi
   subst hi
   refine Comes.last progOk equalQ.p4 [] ?_ rfl
   simp only [FT, IB, EvOk, E.b, E.i, E.v, Env.ext, evL]; rw [hm]; omega
  | succ t ih =>
   intro i i' ht hi
   subst hi
   refine Comes.step progOk equalQ.p3 [] ?_ (ih (i + 1) ((i : Int) + 1) (by omega) (by omega))
   simp only [FT, IB, EvOk, E.b, E.i, E.v, Env.ext, evL]; rw [hm]; omega
 refine Fn.of (C := equalQ.K) equalQ.b (Comes.step progOk equalQ.p1 [] ?_ (loop m 0 0 (by omega) rfl))
 simp only [FT, IB, EvOk, E.b, E.i, E.v, Env.ext, evL]
theorem clone_spec (hO : Zs O o) (h1 : 1 ≤ o.length) (h2 : o.length ≤ 100) : ∃ O', Zs O' o ∧ FnO prog clone.f [O] O' := by
 have lo := hO.len
 have hn : O.isNil = false := by
  cases O with
  | nil => unfold Zs at hO; have := congrArg List.length hO; simp [V.els] at this; omega
  | _ => rfl
 have hz : Zs ((V.list []).app O) o := by
  unfold Zs at *
  unfold V.app
  split
  ·rename_i q; rw [q] at hO; rw [← hO]; rfl
  ·rw [els_list]; simpa [els_list] using hO
 refine ⟨_, hz, FnO.of (C := clone.K) clone.b (ComesO.last progOk clone.p1 [] ?_ ?_)⟩
 ·simp only [FT, IB, EvOk, E.b, E.i, E.v, Env.ext, evL]; rw [lo]; exact ⟨hn, by omega⟩
 ·simp only [FT, IB, EvOk, E.b, E.i, E.v, Env.ext, evL]
end
end X
namespace X
open Go Go.Abs Go.Sym
theorem replicate_snoc (j : Nat) (o : List Int) : more o j ++ [-1] = more o (j + 1) := by
 unfold more; rw [List.append_assoc, List.replicate_succ']
theorem HiddenEnds_spec (wk : Sym.Fn prog 10 [] (.bool true)) {D : V} {g' n' k' : Nat} {l e : List Nat} {L S' : V} (X : Dr D g' n' k' l e L S') {b : Nat} (hb : b ≤ 255) : Fn prog HiddenEnds.f [D, .int b] (.bool true) := by
 obtain ⟨F, S, W, f, s, w, H, z1, z2, z3, c0⟩ := DraftHidden_spec X
 obtain ⟨O, o, y1, y2, y3, y4, c1⟩ := DraftWhat_spec X
 have hD := X.eq
 rw [hD] at c0 c1 ⊢
 generalize ((1 + g' % 12 : Nat) : Int) = G at *
 generalize hn : 1 + n' % 4 = n at *
 generalize hk : 1 + k' % 4 = k at *
 have h : HV G f s w o n k F S W O := ⟨H, ⟨y2, y3, y4⟩, z1, z2, z3, y1⟩
 obtain ⟨lf, ls, lw, lo⟩ := h.lens
 have hn4 := H.n4
 obtain ⟨t1, t2⟩ := h.tot
 obtain ⟨pw1, pw2⟩ := H.gpow (m := 2 * o.length) (by omega)
 by_cases h0 : tot G f s w o n = 0
 ·-- never seen
  have p1 := hProb_ok h
  rw [h0] at p1
  have o1 := OfI (a := 0) (b := 1) (by omega) (by omega) (by omega) (by omega)
  have ez := cani_zero (b := G ^ (2 * o.length)) (c := 1) (by omega) (by omega)
  refine Fn.of (C := HiddenEnds.K) HiddenEnds.b (Comes.last progOk HiddenEnds.p4 [.bool true, hm G F S W, O, .list [.nil, .int 7], .list [.nil, .int 7], .list [.nil, .int 7], .list [cani 0 (G ^ (2 * o.length)), .int 0], cani 0 1] ?_ rfl)
  simp only [FT, IB, EvOk, E.b, E.i, E.v, Env.ext, evL]
  refine ⟨wk, c0, c1, hFilter_zero h h0, hSmooth_zero h h0, hPredict_zero h h0 (by omega) (by omega), by decide, rfl, rfl, p1, rfl, o1, ?_, by decide, by decide⟩
  rw [ez]; exact ⟨rfl, rfl⟩
 ·have hF := hFilter_ok h h0
  have hS := hSmooth_ok h h0
  have hP := hPredict_ok h h0 (m := 0) (by omega)
  have mF : (V.list [fltV G f s w o n o.length, .int 0]).get 0 = fltV G f s w o n o.length := rfl
  have mS : (V.list [smV G f s w o n o.length, .int 0]).get 0 = smV G f s w o n o.length := rfl
  have mP : (V.list [prV G f s w o n 0, .int 0]).get 0 = prV G f s w o n 0 := rfl
  have e1 : (o.length : Int) - 1 = ((o.length - 1 : Nat) : Int) := by omega
  have vF := fltV_get (G := G) (f := f) (s := s) (w := w) (o := o) (n := n) (T := o.length) (t := o.length - 1) (by omega)
  have vS := smV_get (G := G) (f := f) (s := s) (w := w) (o := o) (n := n) (T := o.length) (t := o.length - 1) (by omega)
  rw [sm_last h] at vS
  have hlast : sumR n (FW G f s w o n (o.length - 1)) = tot G f s w o n := rfl
  rw [hlast] at vF
  have vP : prV G f s w o n 0 = shr (fwR G f s w o n (o.length - 1)) (tot G f s w o n) := rfl
  have q1 := equalQ_refl (shr (fwR G f s w o n (o.length - 1)) (tot G f s w o n)) (by rw [shr_len, rowR_len]; omega)
  obtain ⟨O1, o1, o2⟩ := clone_spec y1 y2 (by omega)
  generalize hv0 : V.list [.int g', .int n', .int k', L, S'] = v0 at *
  generalize hvF : V.list [fltV G f s w o n o.length, .int 0] = vvF at *
  generalize hvS : V.list [smV G f s w o n o.length, .int 0] = vvS at *
  generalize hvP : V.list [prV G f s w o n 0, .int 0] = vvP at *
  have rF : (vvF.get 1).toI = 0 := by rw [← hvF]; rfl
  have rS : (vvS.get 1).toI = 0 := by rw [← hvS]; rfl
  have rP : (vvP.get 1).toI = 0 := by rw [← hvP]; rfl
  have fl := fltV_len (G := G) (f := f) (s := s) (w := w) (o := o) (n := n) o.length
  have sl := smV_len (G := G) (f := f) (s := s) (w := w) (o := o) (n := n) o.length
  obtain ⟨J, hJ⟩ : ∃ J : Nat, ((b : Int)).tmod (9 - (o.length : Int)) = (J : Int) ∧ o.length + J ≤ 8 := by
   refine ⟨b % (9 - o.length), ?_, ?_⟩
   ·rw [show (9 : Int) - (o.length : Int) = ((9 - o.length : Nat) : Int) by omega]; exact tmod_nat _ _
   ·have := Nat.mod_lt b (show 0 < 9 - o.length by omega)
    omega
  have loop : ∀ (q j : Nat) (j' : Int) (O' : V), q + j = J → j' = j → Zs O' (more o j) → Comes HiddenEnds.K HiddenEnds.f HiddenEnds.s1 ⟨[j'], [], [v0, .int b, .bool true, hm G F S W, O, vvF, vvS, vvP, .bool true, .bool true, O1, O']⟩ (.bool true) := by
   intro q
   induction q with
   | zero =>
    intro j j' O' hq hj hz
    have : j = J := by omega
    subst hj this
    have lO := hz.len
    rw [more_len, Int.natCast_add] at lO
    have hP2 := hPredict_ok h h0 (m := j) hJ.2
    have hv2 := h.more hJ.2 hz
    have hF2 := hFilter_ok hv2 (more_tot h h0)
    have fl2 := fltV_len (G := G) (f := f) (s := s) (w := w) (o := more o j) (n := n) (more o j).length
    have ml := more_len o j
    have vF2 := fltV_get (G := G) (f := f) (s := s) (w := w) (o := more o j) (n := n) (T := (more o j).length) (t := (more o j).length - 1) (by omega)
    rw [← predict_more h h0 hJ.2] at vF2
    have q2 := equalQ_refl (prV G f s w o n j) (by unfold prV; rw [shr_len, rowR_len]; omega)
    have e2 : ((more o j).length : Int) - 1 = (((more o j).length - 1 : Nat) : Int) := by omega
    have mP2 : (V.list [prV G f s w o n j, .int 0]).get 0 = prV G f s w o n j := rfl
    have mF2 : (V.list [fltV G f s w (more o j) n (more o j).length, .int 0]).get 0 = fltV G f s w (more o j) n (more o j).length := rfl
    have lm : (o.length : Int) + (j : Int) - (o.length : Int) = (j : Int) := by omega
    refine Comes.last progOk HiddenEnds.p21 [.list [prV G f s w o n j, .int 0], .list [fltV G f s w (more o j) n (more o j).length, .int 0], .bool true] ?_ rfl
    simp only [FT, IB, EvOk, E.b, E.i, E.v, Env.ext, evL]
    rw [lo, hJ.1, lO, mP2, mF2, fl2, e2, vF2, lm]
    exact ⟨by omega, by omega, hP2, hF2, rfl, rfl, by omega, by omega, by omega, q2⟩
   | succ q ih =>
    intro j j' O' hq hj hz
    subst hj
    have lO := hz.len
    rw [more_len] at lO
    have hz2 := hz.snoc (-1)
    rw [replicate_snoc] at hz2
    refine Comes.step progOk HiddenEnds.p20 [] ?_ (ih (j + 1) ((j : Int) + 1) _ (by omega) (by omega) hz2)
    simp only [FT, IB, EvOk, E.b, E.i, E.v, Env.ext, evL]; rw [lo, hJ.1, lO]; omega
  have l0 := loop J 0 0 O1 (by omega) rfl (by unfold more; simpa using o1)
  refine Fn.of (C := HiddenEnds.K) HiddenEnds.b (Comes.step progOk HiddenEnds.p19 [.bool true, hm G F S W, O, vvF, vvS, vvP, .bool true, .bool true, O1] ?_ l0)
  subst hv0
  simp only [FT, IB, EvOk, E.b, E.i, E.v, Env.ext, evL]
  rw [rF, rS, rP, mF, mS, mP, fl, sl, lo, e1, vF, vS, vP]
  exact ⟨wk, c0, c1, hF, hS, hP, rfl, rfl, rfl, by decide, rfl, rfl, by omega, by omega, by omega, by omega, q1, by omega, by omega, q1, o2, by omega, by omega, by omega⟩
end X
