/- Texts of the claim: GlobH, Hid10, Hid11, Hid12, Hid13, Hid14, Hid15, Hid16, HMeets, Hid17, Hid18, Hid19, Hid20, Hid21, Hid22, Hid23, Hid24, Hid25, HTabs, Hid26, HKnows. -/
import Derived.Test.YtildjgdhdcoojaaDoorZ12
import Derived.Test.YtildjgdhdcoojaaDoorZ14
import Derived.Test.YtildjgdhdcoojaaDoorZ11
import Derived.Test.YtildjgdhdcoojaaDoorCards
import Derived.Test.YtildjgdhdcoojaaDoorTie
import Derived.ProofKit
import Derived.OpenShut
import Derived.ShutString
import Derived.ChangeOld
import Derived.Below
import Derived.LaidMore
import Derived.Stop.Joined
import Derived.Lib.LaidTab
set_option linter.unusedVariables false
set_option linter.unusedSimpArgs false
namespace Go.Proofs.YtildjgdhdcoojaaDoor.GlobH
open Go
theorem own : ownKnob Tryd.prog.godebug = none := by kernel_rfl
theorem laidOut : laidOutB Tryd.prog = true := by kernel_rfl
theorem EH : Tryd.prog.globalNamed "haruspex/hidden.directions" = some 0 := by kernel_rfl
theorem Et : (Tryd.prog.globals[0]?).map (·.type) = some 144 := by kernel_rfl
theorem B7 : Tryd.prog.cellsOf 143 = 1 := by kernel_rfl
def uG : List (String × DataW Unit) := [("haruspex/hidden.directions", Rows.laid_haruspex_hidden_directions)]
theorem B3 (os : Os) (args : Array Value) : laidMetH Tryd.prog uG ((World.doorLaid Tryd.prog 600 os).forCall (fun _ _ => 0) ⟨#[], args, []⟩).memory :=
 laidMetH_of_parts3 (fuel := 8) (laidMet_of_run' 8 (by kernel_rfl) (by kernel_rfl)) (by kernel_rfl) (by kernel_rfl)
set_option maxRecDepth 100000 in
theorem CJ {W : World} (h : laidMetH Tryd.prog uG W) : W.cell? ⟨0, 0, none⟩ = some (.func (.func 65) #[] #[]) /\ W.cell? ⟨0, 1, none⟩ = some (.func (.func 140) #[] #[]) := by
 obtain ⟨g, t, cs, fuel, p, hg, ht, hv, hd⟩ := h.funcs (List.mem_singleton.2 rfl)
 obtain rfl := Option.some.inj (EH.symm.trans hg)
 obtain rfl := Option.some.inj (Et.symm.trans ht)
 have hd' : DataW.trod (funcToken Tryd.prog) Tryd.prog W 0 (fun _ => true) true fuel 144 cs.toList = some (.agg [.held [40, 104, 97, 114, 117, 115, 112, 101, 120, 47, 104, 105, 100, 100, 101, 110, 46, 119, 97, 116, 99, 104, 101, 114, 41, 46, 117, 112], .held [40, 104, 97, 114, 117, 115, 112, 101, 120, 47, 104, 105, 100, 100, 101, 110, 46, 119, 97, 116, 99, 104, 101, 114, 41, 46, 100, 111, 119, 110]], p) := hd
 clear hd
 cases fuel with
 | zero => simp [DataW.trod] at hd'
 | succ fuel =>
  simp only [DataW.trod, Tryd.underlying144, B7, Nat.mul_one] at hd'
  split at hd'
  ·rename_i hl
   obtain ⟨xs, hm, hx⟩ := Option.map_eq_some_iff.1 hd'
   have hxs : xs.map (·.1) = [.held [40, 104, 97, 114, 117, 115, 112, 101, 120, 47, 104, 105, 100, 100, 101, 110, 46, 119, 97, 116, 99, 104, 101, 114, 41, 46, 117, 112], .held [40, 104, 97, 114, 117, 115, 112, 101, 120, 47, 104, 105, 100, 100, 101, 110, 46, 119, 97, 116, 99, 104, 101, 114, 41, 46, 100, 111, 119, 110]] := by
    have := congrArg Prod.fst hx
    injection this
   have hcl : cs.toList.length = 2 := by first | exact hl | (exact of_decide_eq_true hl) | simpa using hl
   obtain ⟨a, b, hab⟩ : ∃ a b, cs.toList = [a, b] := by
    match cs.toList, hcl with
    | [a, b], _ => exact ⟨a, b, rfl⟩
   rw [hab] at hm
   obtain ⟨y0, h0, r0⟩ := Lib.mapM_at hm 0 0 (by simp)
   obtain ⟨y1, h1, r1⟩ := Lib.mapM_at hm 1 1 (by simp)
   have e0 : (xs.map (·.1))[0]? = some y0.1 := by simp [h0]
   have e1 : (xs.map (·.1))[1]? = some y1.1 := by simp [h1]
   rw [hxs] at e0 e1
   simp only [List.getElem?_cons_zero, List.getElem?_cons_succ, Option.some.injEq] at e0 e1
   obtain ⟨y0a, y0b⟩ := y0
   obtain ⟨y1a, y1b⟩ := y1
   simp only at e0 e1
   subst e0; subst e1
   simp only [List.drop_zero, List.take_succ_cons, List.take_zero, List.drop_succ_cons] at r0 r1
   obtain rfl := func_of_trod (f0 := 65) Tryd.underlying143 (by kernel_rfl) r0
   obtain rfl := func_of_trod (f0 := 140) Tryd.underlying143 (by kernel_rfl) r1
   have c0 := World.var?_cell hg hv 0
   have c1 := World.var?_cell hg hv 1
   have hcs : cs = #[Value.func (.func 65) #[] #[], Value.func (.func 140) #[] #[]] := by
    apply Array.ext'
    exact hab
   rw [hcs] at c0 c1
   exact ⟨by simpa using c0, by simpa using c1⟩
  ·cases hd'
theorem EF {W : World} (h : laidMetH Tryd.prog uG W) : Go.a9.ig (Go.Sym.lu W) := by
 obtain ⟨h0, h1⟩ := CJ h
 refine ⟨fun μ g => ?_⟩
 by_cases hg : g = 0
 ·subst hg
  exact .fT (.cons (u := .func (.func 65) #[] #[]) h0 (.func .nil .nil) (.cons (u := .func (.func 140) #[] #[]) h1 (.func .nil .nil) .nil))
 ·have : Go.a9.gv g = .bad := by
   unfold Go.a9.gv Go.a9.CR
   have e : (g == 0) = false := by simp [hg]
   simp only [List.lookup, e]
  rw [this]; exact .bad _
end Go.Proofs.YtildjgdhdcoojaaDoor.GlobH
namespace X
def ba (n : Nat) (g : Nat -> Int) : Int := ((List.range n).map g).sum
theorem iB (g : Nat -> Int) : ba 0 g = 0 := rfl
theorem aX (n : Nat) (g : Nat -> Int) : ba (n + 1) g = ba n g + g n := by
 unfold ba; rw [List.range_succ, List.map_append, List.sum_append]; simp
theorem b6 {n : Nat} {g h : Nat -> Int} (e : ∀ i, i < n -> g i = h i) : ba n g = ba n h := by
 unfold ba; congr 1
 apply List.map_congr_left
 intro i hi; exact e i (List.mem_range.1 hi)
theorem bN {n : Nat} {g : Nat -> Int} (h : ∀ i, i < n -> 0 <= g i) : 0 <= ba n g := by
 induction n with
 | zero => simp [iB]
 | succ n ih => rw [aX]; have := ih fun i hi => h i (by omega); have := h n (by omega); omega
theorem rn {n : Nat} {g h : Nat -> Int} (e : ∀ i, i < n -> g i <= h i) : ba n g <= ba n h := by
 induction n with
 | zero => simp [iB]
 | succ n ih => rw [aX, aX]; have := ih fun i hi => e i (by omega); have := e n (by omega); omega
theorem ek {n m : Nat} {g : Nat -> Int} (hm : m <= n) (h : ∀ i, i < n -> 0 <= g i) : ba m g <= ba n g := by
 induction n with
 | zero =>
  have : m = 0 := by omega
  subst this; omega
 | succ n ih =>
  by_cases q : m = n + 1
  ·subst q; omega
  ·rw [aX]; have := ih (by omega) fun i hi => h i (by omega); have := h n (by omega); omega
theorem iH {n i : Nat} {g : Nat -> Int} (hi : i < n) (h : ∀ i, i < n -> 0 <= g i) : g i <= ba n g := by
 have h1 := ek (m := i + 1) (by omega : i + 1 <= n) h
 rw [aX] at h1
 have := bN (n := i) (g := g) fun j hj => h j (by omega)
 omega
theorem eJ (n : Nat) (g : Nat -> Int) (c : Int) : ba n (fun i => g i * c) = ba n g * c := by
 induction n with
 | zero => simp [iB]
 | succ n ih => rw [aX, aX, ih, Int.add_mul]
theorem sumR_mul' (n : Nat) (g : Nat -> Int) (c : Int) : ba n (fun i => c * g i) = c * ba n g := by
 induction n with
 | zero => simp [iB]
 | succ n ih => rw [aX, aX, ih, Int.mul_add]
theorem wA (n : Nat) (g h : Nat -> Int) : ba n (fun i => g i + h i) = ba n g + ba n h := by
 induction n with
 | zero => simp [iB]
 | succ n ih => rw [aX, aX, aX, ih]; omega
theorem tW (n m : Nat) (g : Nat -> Nat -> Int) : ba n (fun i => ba m (fun j => g i j)) = ba m (fun j => ba n (fun i => g i j)) := by
 induction n with
 | zero =>
  induction m with
  | zero => rfl
  | succ m ih => rw [aX, <- ih]; simp [iB]
 | succ n ih => rw [aX, ih, <- wA]; apply b6; intro i _; rw [aX]
theorem fX : ∀ (l : List Int), ba l.length (fun i => l.getD i 0) = l.sum := by
 intro l
 unfold ba
 congr 1
 apply List.ext_getElem?
 intro i
 rw [List.getElem?_map]
 by_cases h : i < l.length
 ·rw [List.getElem?_range h, List.getElem?_eq_getElem h]; simp [h]
 ·rw [List.getElem?_eq_none (by simp; omega), List.getElem?_eq_none (by omega)]; rfl
section
variable (G : Int) (f : List Int) (s w : List (List Int)) (o : List Int) (n : Nat)
def si (u v : Nat) : Int := (s.getD u []).getD v 0
def sh (t v : Nat) : Int := if o.getD t 0 < 0 then G else (w.getD v []).getD (o.getD t 0).toNat 0
def FW : Nat -> Nat -> Int
 | 0, v => f.getD v 0 * sh G w o 0 v
 | t + 1, v => ba n (fun u => FW t u * si s u v) * sh G w o (t + 1) v
def BW : Nat -> Nat -> Int
 | 0, _ => 1
 | k + 1, v => ba n (fun u => si s v u * sh G w o (o.length - 1 - k) u * BW k u)
def jO (g : Nat -> Int) : List Int := (List.range n).map g
end
structure EW (o : List Int) (k : Nat) : Prop where
 l1 : 1 <= o.length
 l8 : o.length <= 8
 x : ∀ x ∈ o, -1 <= x /\ x < (k : Int)
section
variable {G : Int} {f : List Int} {s w : List (List Int)} {o : List Int} {n k : Nat}
theorem vk {G : Int} {m : Nat} {r : List Int} (h : er G m r = true) (v : Nat) : 0 <= r.getD v 0 /\ r.getD v 0 <= G := by
 obtain ⟨h1, h2, h3⟩ := cy.1 h
 have h0 : 0 <= G := by
  rw [<- h3]
  clear h h1 h3
  induction r with
  | nil => simp
  | cons a l ih =>
   have := ih fun x hx => h2 x (by simp [hx])
   have := h2 a (by simp)
   simp; omega
 by_cases hv : v < r.length
 ·have := h2 r[v] (List.getElem_mem hv)
  simp [hv]; omega
 ·simp [hv]; omega
theorem g8.si (H : g8 G f s w n k) {u : Nat} (hu : u < n) (v : Nat) : 0 <= X.si s u v /\ X.si s u v <= G := by
 have hl : u < s.length := by rw [H.sl]; exact hu
 have : s.getD u [] = s[u] := by simp [hl]
 unfold X.si; rw [this]
 exact vk (H.sr _ (List.getElem_mem hl)) v
theorem g8.Bj (H : g8 G f s w n k) {u : Nat} (hu : u < n) : ba n (fun v => X.si s u v) = G := by
 have hl : u < s.length := by rw [H.sl]; exact hu
 have e : s.getD u [] = s[u] := by simp [hl]
 obtain ⟨h1, h2, h3⟩ := cy.1 (H.sr _ (List.getElem_mem hl))
 unfold X.si; rw [e]
 have := fX s[u]
 rw [show s[u].length = n by omega] at this
 rw [this, h3]
theorem g8.sh (H : g8 G f s w n k) (t : Nat) {v : Nat} (hv : v < n) : 0 <= X.sh G w o t v /\ X.sh G w o t v <= G := by
 have := H.g1
 unfold X.sh
 split
 ·omega
 ·have hl : v < w.length := by rw [H.wl]; exact hv
  have e : w.getD v [] = w[v] := by simp [hl]
  rw [e]
  exact vk (H.wr _ (List.getElem_mem hl)) _
theorem g8.fi (H : g8 G f s w n k) (v : Nat) : 0 <= f.getD v 0 /\ f.getD v 0 <= G := vk H.fr v
theorem g8.DF (H : g8 G f s w n k) : ba n (fun v => f.getD v 0) = G := by
 have := fX f
 rw [H.fl] at this
 rw [this]; exact (cy.1 H.fr).2.2
theorem g8.bW (H : g8 G f s w n k) : ∀ t v, v < n -> 0 <= FW G f s w o n t v
 | 0, v, hv => Int.mul_nonneg (H.fi v).1 (H.sh 0 hv).1
 | t + 1, v, hv => Int.mul_nonneg (bN fun u hu => Int.mul_nonneg (H.bW t u hu) (H.si hu v).1) (H.sh (t + 1) hv).1
theorem g8.vO (H : g8 G f s w n k) : ∀ t, ba n (FW G f s w o n t) <= G ^ (2 * t + 2)
 | 0 => by
  have h1 : ba n (FW G f s w o n 0) <= ba n (fun v => f.getD v 0 * G) := rn fun v hv => Int.mul_le_mul_of_nonneg_left (H.sh 0 hv).2 (H.fi v).1
  rw [eJ, H.DF] at h1
  rw [show G ^ (2 * 0 + 2) = G * G by rw [show 2 * 0 + 2 = 2 from rfl, Int.pow_succ, Int.pow_succ, Int.pow_zero, Int.one_mul]]
  exact h1
 | t + 1 => by
  have ih := H.vO t
  have g1 := H.g1
  have h1 : ba n (FW G f s w o n (t + 1)) <= ba n (fun v => ba n (fun u => FW G f s w o n t u * X.si s u v) * G) := rn fun v hv => Int.mul_le_mul_of_nonneg_left (H.sh (t + 1) hv).2 (bN fun u hu => Int.mul_nonneg (H.bW t u hu) (H.si hu v).1)
  rw [eJ, tW] at h1
  have h2 : ba n (fun u => ba n (fun v => FW G f s w o n t u * X.si s u v)) = ba n (FW G f s w o n t) * G := by
   rw [<- eJ]; apply b6; intro u hu
   rw [sumR_mul' n (fun v => X.si s u v), H.Bj hu]
  rw [h2] at h1
  rw [show 2 * (t + 1) + 2 = (2 * t + 2) + 1 + 1 by omega, Int.pow_succ, Int.pow_succ]
  refine Int.le_trans h1 ?_
  exact Int.mul_le_mul_of_nonneg_right (Int.mul_le_mul_of_nonneg_right ih (by omega)) (by omega)
theorem sx {G : Int} (g1 : 1 <= G) (g2 : G <= 12) : ∀ m, G ^ m <= 12 ^ m /\ 1 <= G ^ m
 | 0 => by simp
 | m + 1 => by
  obtain ⟨h1, h2⟩ := sx g1 g2 m
  rw [Int.pow_succ, Int.pow_succ]
  refine ⟨Int.le_trans (Int.mul_le_mul_of_nonneg_right h1 (by omega)) (Int.mul_le_mul_of_nonneg_left g2 (by omega)), ?_⟩
  have := Int.mul_le_mul h2 g1 (by omega) (by omega : (0 : Int) <= G ^ m)
  omega
theorem n8 {G : Int} (g1 : 1 <= G) (g2 : G <= 12) {m : Nat} (hm : m <= 16) : G ^ m <= 184884258895036416 := by
 have h := (sx g1 g2 m).1
 have h2 : (12 : Int) ^ m <= 12 ^ 16 := by
  have : (12 : Nat) ^ m <= 12 ^ 16 := Nat.pow_le_pow_right (by omega) hm
  exact_mod_cast this
 have h3 : (12 : Int) ^ 16 = 184884258895036416 := by decide
 omega
theorem g8.BU (H : g8 G f s w n k) {t v : Nat} (ht : t < 8) (hv : v < n) : FW G f s w o n t v <= 184884258895036416 := by
 have h1 := iH (g := FW G f s w o n t) hv fun i hi => H.bW t i hi
 have h2 := H.vO (o := o) t
 have h3 := n8 H.g1 H.g2 (m := 2 * t + 2) (by omega)
 omega
theorem g8.yU (H : g8 G f s w n k) {t : Nat} (ht : t < 8) : ba n (FW G f s w o n t) <= 184884258895036416 := by
 have h2 := H.vO (o := o) t
 have h3 := n8 H.g1 H.g2 (m := 2 * t + 2) (by omega)
 omega
theorem g8.BS (H : g8 G f s w n k) {t v : Nat} (ht : t < 7) (hv : v < n) : ba n (fun u => FW G f s w o n t u * X.si s u v) <= 184884258895036416 := by
 have h1 : ba n (fun u => FW G f s w o n t u * X.si s u v) <= ba n (fun u => FW G f s w o n t u * G) := rn fun u hu => Int.mul_le_mul_of_nonneg_left (H.si hu v).2 (H.bW t u hu)
 rw [eJ] at h1
 have h2 := Int.mul_le_mul_of_nonneg_right (H.vO (o := o) t) (show 0 <= G by have := H.g1; omega)
 have h3 := n8 H.g1 H.g2 (m := 2 * t + 2 + 1) (by omega)
 rw [Int.pow_succ] at h3
 omega
theorem g8.pM (H : g8 G f s w n k) : ∀ t v, v < n -> 0 <= BW G s w o n t v
 | 0, v, hv => by simp [BW]
 | t + 1, v, hv => bN fun u hu => Int.mul_nonneg (Int.mul_nonneg (H.si hv u).1 (H.sh _ hu).1) (H.pM t u hu)
theorem g8.bw_le' (H : g8 G f s w n k) : ∀ t v, v < n -> BW G s w o n t v <= G ^ (2 * t)
 | 0, v, hv => by simp [BW]
 | t + 1, v, hv => by
  have g1 := H.g1
  have h1 : BW G s w o n (t + 1) v <= ba n (fun u => X.si s v u * (G * G ^ (2 * t))) := rn fun u hu => by
   rw [Int.mul_assoc]
   refine Int.mul_le_mul_of_nonneg_left ?_ (H.si hv u).1
   exact Int.mul_le_mul (H.sh _ hu).2 (H.bw_le' t u hu) (H.pM t u hu) (by omega)
  rw [eJ, H.Bj hv] at h1
  rw [show 2 * (t + 1) = 2 * t + 1 + 1 by omega, Int.pow_succ, Int.pow_succ]
  have : G ^ (2 * t) * G * G = G * (G * G ^ (2 * t)) := by rw [Int.mul_comm (G ^ (2 * t)) G, Int.mul_comm _ G]
  omega
theorem g8.Ee (H : g8 G f s w n k) {t v : Nat} (ht : t < 8) (hv : v < n) : BW G s w o n t v <= 184884258895036416 := by
 have h1 := H.bw_le' (o := o) t v hv
 have h3 := n8 H.g1 H.g2 (m := 2 * t) (by omega)
 omega
end
theorem bK {n v : Nat} (g : Nat -> Int) (h : v < n) : (jO n g)[v]? = some (g v) := by
 unfold jO; rw [List.getElem?_map, List.getElem?_range h]; rfl
theorem bp (n : Nat) (g : Nat -> Int) : (jO n g).length = n := by simp [jO]
theorem sj (n : Nat) (g : Nat -> Int) : (jO n g).sum = ba n g := rfl
end X
namespace X
open Go Go.a9 Go.Sym
def wm (G : Int) (F S W O : V) : V := .list [hm G F S W, O]
structure HV (G : Int) (f : List Int) (s w : List (List Int)) (o : List Int) (n k : Nat) (F S W O : V) : Prop where
 H : g8 G f s w n k
 so : EW o k
 F : Zs F f
 S : cT S s
 W : cT W w
 O : Zs O o
section
variable {G : Int} {f : List Int} {s w : List (List Int)} {o : List Int} {n k : Nat} {F S W O : V}
theorem cT.at {R : V} {rows : List (List Int)} (h : cT R rows) {u : Nat} (hu : u < rows.length) : Zs (R.get (u : Int)) (rows.getD u []) := by
 have := h.row u rows[u] (List.getElem?_eq_getElem hu)
 simpa [hu] using this
theorem Zs.at {x : V} {l : List Int} (h : Zs x l) {u : Nat} (hu : u < l.length) : (x.get (u : Int)).ab = l.getD u 0 := by
 rw [h.get (List.getElem?_eq_getElem hu)]; simp [hu]
theorem HV.fi (h : HV G f s w o n k F S W O) {v : Nat} (hv : v < n) : (F.get (v : Int)).ab = f.getD v 0 := h.F.at (by rw [h.H.fl]; exact hv)
theorem HV.si (h : HV G f s w o n k F S W O) {u v : Nat} (hu : u < n) (hv : v < n) : ((S.get (u : Int)).get (v : Int)).ab = X.si s u v /\ (S.get (u : Int)).len = n := by
 have hl : u < s.length := by rw [h.H.sl]; exact hu
 have hz := h.S.at hl
 have e : s.getD u [] = s[u] := by simp [hl]
 have hr := (cy.1 (h.H.sr _ (List.getElem_mem hl))).1
 refine ⟨hz.at (by rw [e]; omega), by rw [hz.len, e]; omega⟩
theorem HV.wi (h : HV G f s w o n k F S W O) {v : Nat} (hv : v < n) {x : Nat} (hx : x < k) : ((W.get (v : Int)).get (x : Int)).ab = (w.getD v []).getD x 0 /\ (W.get (v : Int)).len = k := by
 have hl : v < w.length := by rw [h.H.wl]; exact hv
 have hz := h.W.at hl
 have e : w.getD v [] = w[v] := by simp [hl]
 have hr := (cy.1 (h.H.wr _ (List.getElem_mem hl))).1
 refine ⟨hz.at (by rw [e]; omega), by rw [hz.len, e]; omega⟩
theorem HV.ox (h : HV G f s w o n k F S W O) {t : Nat} (ht : t < o.length) : (O.get (t : Int)).ab = o.getD t 0 /\ -1 <= o.getD t 0 /\ o.getD t 0 < (k : Int) := by
 refine ⟨h.O.at ht, ?_⟩
 have := h.so.x o[t] (List.getElem_mem ht)
 simpa [ht] using this
theorem HV.lens (h : HV G f s w o n k F S W O) : F.len = n /\ S.len = n /\ W.len = n /\ O.len = o.length := by
 refine ⟨by rw [h.F.len, h.H.fl], by rw [h.S.cX, h.H.sl], by rw [h.W.cX, h.H.wl], h.O.len⟩
theorem qA (h : HV G f s w o n k F S W O) {t v : Nat} (ht : t < o.length) (hv : v < n) : Fn prog pC.f [wm G F S W O, .int t, .int v] (.int (sh G w o t v)) := by
 have m0 : (((wm G F S W O).get 0).get 0).ab = G := rfl
 have m3 : ((wm G F S W O).get 0).get 3 = W := rfl
 have mo : (wm G F S W O).get 1 = O := rfl
 obtain ⟨_, _, lw, lo⟩ := h.lens
 obtain ⟨o1, o2, o3⟩ := h.ox ht
 refine Fn.of (C := pC.K) pC.b ?_
 by_cases c : o.getD t 0 < 0
 ·refine Comes.last aa pC.p0 [] ?_ ?_
  ·simp only [HM, FT, IB, ag, E.b, E.i, E.v, Env.ext, aO]; rw [mo, lo, o1]; omega
  ·simp only [HM, FT, IB, ag, E.b, E.i, E.v, Env.ext, aO]; rw [m0]; unfold sh; rw [if_pos c]
 ·obtain ⟨x, hx⟩ : ∃ x : Nat, o.getD t 0 = (x : Int) := ⟨(o.getD t 0).toNat, by omega⟩
  obtain ⟨w1, w2⟩ := h.wi hv (x := x) (by omega)
  refine Comes.last aa pC.p1 [] ?_ ?_
  ·simp only [HM, FT, IB, ag, E.b, E.i, E.v, Env.ext, aO]; rw [m3, mo, lo, lw, o1, hx, w2]; omega
  ·simp only [HM, FT, IB, ag, E.b, E.i, E.v, Env.ext, aO]; rw [m3, mo, o1, hx, w1]; unfold sh; rw [if_neg c, hx]; rfl
theorem jm (h : HV G f s w o n k F S W O) {t v : Nat} (ht : t < o.length) (hv : v < n) : Fn prog pn.f [hm G F S W, .int v, .int (o.getD t 0)] (.int (sh G w o t v)) := by
 have m0 : ((hm G F S W).get 0).ab = G := rfl
 have m3 : (hm G F S W).get 3 = W := rfl
 obtain ⟨_, _, lw, lo⟩ := h.lens
 obtain ⟨o1, o2, o3⟩ := h.ox ht
 refine Fn.of (C := pn.K) pn.b ?_
 by_cases c : o.getD t 0 < 0
 ·refine Comes.last aa pn.p0 [] ?_ ?_
  ·simp only [HM, FT, IB, ag, E.b, E.i, E.v, Env.ext, aO]; omega
  ·simp only [HM, FT, IB, ag, E.b, E.i, E.v, Env.ext, aO]; rw [m0]; unfold sh; rw [if_pos c]
 ·obtain ⟨x, hx⟩ : ∃ x : Nat, o.getD t 0 = (x : Int) := ⟨(o.getD t 0).toNat, by omega⟩
  obtain ⟨w1, w2⟩ := h.wi hv (x := x) (by omega)
  refine Comes.last aa pn.p1 [] ?_ ?_
  ·simp only [HM, FT, IB, ag, E.b, E.i, E.v, Env.ext, aO]; rw [m3, lw, hx, w2]; omega
  ·simp only [HM, FT, IB, ag, E.b, E.i, E.v, Env.ext, aO]; rw [m3, hx, w1]; unfold sh; rw [if_neg c, hx]; rfl
structure tO (T t : Nat) (g : Nat -> List Int) (x : V) : Prop where
 len : x.bx.length = T
 row : ∀ j, j < t -> Zs (x.get (j : Int)) (g j)
 rest : ∀ j, t <= j -> j < T -> x.get (j : Int) = .nil
theorem tO.cX {T t : Nat} {g : Nat -> List Int} {x : V} (h : tO T t g x) : x.len = (T : Int) := by simp [V.len, h.len]
theorem nk {x y : V} {i j : Nat} (hi : i < x.bx.length) : (x.set (i : Int) y).get (j : Int) = if j = i then y else x.get (j : Int) := by
 simp only [V.set, V.get, cf, Int.toNat_natCast]
 by_cases h : j = i
 ·subst h; rw [if_pos rfl, List.getElem?_set_self hi]; rfl
 ·rw [if_neg h, List.getElem?_set_ne (by omega)]
theorem tO.put {T t : Nat} {g : Nat -> List Int} {x y : V} (h : tO T t g x) (ht : t < T) (hy : Zs y (g t)) : tO T (t + 1) g (x.set (t : Int) y) := by
 have hl : t < x.bx.length := by rw [h.len]; exact ht
 refine ⟨by simp [V.set, cf, h.len], fun j hj => ?_, fun j h1 h2 => ?_⟩
 ·rw [nk hl]
  by_cases q : j = t
  ·rw [if_pos q, q]; exact hy
  ·rw [if_neg q]; exact h.row j (by omega)
 ·rw [nk hl, if_neg (by omega)]; exact h.rest j (by omega) h2
theorem tO.Ah {T : Nat} {g : Nat -> List Int} {x : V} (h : tO T T g x) : cT x ((List.range T).map g) := by
 refine ⟨by simp [h.len], fun j r hj => ?_⟩
 have hlt : j < T := by simpa using (List.getElem?_eq_some_iff.1 hj).1
 rw [List.getElem?_map, List.getElem?_range hlt] at hj
 simp at hj; subst hj
 exact h.row j hlt
theorem DU (T : Nat) (g : Nat -> List Int) : tO T 0 g (V.rep (T : Int) .nil) := by
 refine ⟨by simp [V.rep, cf], fun j hj => by omega, fun j _ h2 => ?_⟩
 simp [V.rep, V.get, cf, h2]
theorem ff {l : List Int} {i : Nat} {x : Int} (h : l[i]? = some x) : l.take (i + 1) = l.take i ++ [x] := by
 rw [List.take_add_one, h]; rfl
abbrev nS (G : Int) (f : List Int) (s w : List (List Int)) (o : List Int) (n t : Nat) : List Int := jO n (FW G f s w o n t)
def Ep (G : Int) (f : List Int) (s w : List (List Int)) (o : List Int) (n : Nat) : Nat -> List Int
 | 0 => []
 | t + 1 => nS G f s w o n t
theorem oB (h : HV G f s w o n k F S W O) {t v : Nat} (ht : t < o.length) (hv : v < n) {row b0 b1 out r : V} {l : List Int} (hb : Zs b0 (Ep G f s w o n t)) (hU : Zs row l) (hlr : l.length <= 100) (hol : out.len = (o.length : Int))
  (nx : Comes forward.K forward.f forward.s4 ⟨[(t : Int), (v : Int) + 1], [], [wm G F S W O, row, row.snoc (.int (FW G f s w o n t v)), b1, out]⟩ r) :
  Comes forward.K forward.f forward.s3 ⟨[(v : Int), (t : Int), b0.len, 0, 0], [], [wm G F S W O, row, b0, b1, b0, out]⟩ r := by
 have m1 : ((wm G F S W O).get 0).get 1 = F := rfl
 have m2 : ((wm G F S W O).get 0).get 2 = S := rfl
 obtain ⟨lf, ls, lw, lo⟩ := h.lens
 have hlo := h.so.l8
 have hn4 := h.H.n4
 have rl := hU.len
 have sp := qA h ht hv
 obtain ⟨sh1, sh2⟩ := h.H.sh (o := o) t hv
 have fw0 := h.H.bW (o := o) t v hv
 have fw1 := h.H.BU (o := o) (t := t) (by omega) hv
 have bl := hb.len
 cases t with
 | zero =>
  have b0l : b0.len = 0 := by rw [bl]; rfl
  have fi := h.fi hv
  refine Comes.step aa forward.p6 [.int (sh G w o 0 v)] ?_ ?_
  ·simp only [HM, FT, IB, ag, E.b, E.i, E.v, Env.ext, aO]; rw [m1, lf, b0l, hol, rl, fi]
   have e : f.getD v 0 * sh G w o 0 v = FW G f s w o n 0 v := rfl
   rw [e]
   exact ⟨by omega, by omega, by omega, sp, by omega, by omega, by omega, by omega, by omega, by omega⟩
  ·simp only [Sub.ev, E.v, E.i, Env.ext, aO]
   rw [m1, fi]
   exact nx
 | succ t =>
  have b0l : b0.len = (n : Int) := by rw [bl]; simp [Ep, bp]
  have bat : ∀ u, u < n -> (b0.get (u : Int)).ab = FW G f s w o n t u := fun u hu => hb.get (bK _ hu)
  have fm := h.H.BS (o := o) (t := t) (v := v) (by omega) hv
  have nn : ∀ u, u < n -> 0 <= FW G f s w o n t u * X.si s u v := fun u hu => Int.mul_nonneg (h.H.bW t u hu) (h.H.si hu v).1
  have loop : ∀ (q u : Nat) (u' sum : Int), q + u = n -> u' = u -> sum = ba u (fun u => FW G f s w o n t u * X.si s u v) -> Comes forward.K forward.f forward.s3 ⟨[(v : Int), ((t + 1 : Nat) : Int), b0.len, sum, u'], [], [wm G F S W O, row, b0, b1, b0, out]⟩ r := by
   intro q
   induction q with
   | zero =>
    intro u u' sum hq hu hs
    have : u = n := by omega
    subst hu this
    have e : sum * sh G w o (t + 1) v = FW G f s w o u (t + 1) v := by rw [hs]; rfl
    refine Comes.step aa forward.p7 [.int (sh G w o (t + 1) v)] ?_ ?_
    ·simp only [HM, FT, IB, ag, E.b, E.i, E.v, Env.ext, aO]; rw [b0l, hol, rl, e]
     exact ⟨by omega, by omega, sp, by omega, by omega, by omega, by omega, by omega, by omega⟩
    ·simp only [Sub.ev, E.v, E.i, Env.ext, aO]
     rw [e]
     exact nx
   | succ q ih =>
    intro u u' sum hq hu hs
    subst hu
    have nx2 := ih (u + 1) ((u : Int) + 1) (sum + FW G f s w o n t u * X.si s u v) (by omega) (by omega) (by rw [aX, hs])
    obtain ⟨s1, s2⟩ := h.si (u := u) (v := v) (by omega) hv
    have hb1 := bat u (by omega)
    have mono := ek (m := u + 1) (n := n) (by omega) nn
    rw [aX, <- hs] at mono
    have p0 := bN (n := u) (g := fun u => FW G f s w o n t u * X.si s u v) fun i hi => nn i (by omega)
    rw [<- hs] at p0
    have p1 := nn u (by omega)
    refine Comes.step aa forward.p5 [] ?_ ?_
    ·simp only [HM, FT, IB, ag, E.b, E.i, E.v, Env.ext, aO]; rw [m2, ls, b0l, s1, s2, hb1]
     generalize FW G f s w o n t u * X.si s u v = z at *
     omega
    ·simp only [Sub.ev, E.v, E.i, Env.ext, aO]
     rw [m2, s1, hb1]
     exact nx2
  exact loop n 0 0 0 (by omega) rfl rfl
end
end X
namespace X
open Go Go.a9 Go.Sym
section
variable {G : Int} {f : List Int} {s w : List (List Int)} {o : List Int} {n k : Nat} {F S W O : V}
theorem eK (n : Nat) (g : Nat -> Int) : (jO n g).take n = jO n g := List.take_of_length_le (by rw [bp]; omega)
theorem wG {x y : V} {i : Nat} (hi : i < x.bx.length) : (x.set (i : Int) y).get (i : Int) = y := by rw [nk hi, if_pos rfl]
def lz (l : List Int) : V := .list (l.map V.int)
theorem ly (l : List Int) : Zs (lz l) l := rfl
theorem mq {x : V} {l : List Int} (h : Zs x l) (a : Int) : x.snoc (.int a) = lz (l ++ [a]) := by
 unfold Zs at h; unfold V.snoc lz; rw [h]; simp
theorem xA (h : HV G f s w o n k F S W O) {t : Nat} (ht : t < o.length) {b0 out r : V} (hb : Zs b0 (Ep G f s w o n t)) (hu : tO o.length t (nS G f s w o n) out)
  (nx : Comes forward.K forward.f forward.s1 ⟨[(t : Int) + 1], [], [wm G F S W O, lz (nS G f s w o n t), out.set (t : Int) (lz (nS G f s w o n t))]⟩ r) :
  Comes forward.K forward.f forward.s1 ⟨[(t : Int)], [], [wm G F S W O, b0, out]⟩ r := by
 have m1 : ((wm G F S W O).get 0).get 1 = F := rfl
 have mo : (wm G F S W O).get 1 = O := rfl
 obtain ⟨lf, ls, lw, lo⟩ := h.lens
 have hlo := h.so.l8
 have hn1 := h.H.n1
 have hn4 := h.H.n4
 have hol := hu.cX
 have hnil := hu.rest t (Nat.le_refl _) ht
 have hlt : t < out.bx.length := by rw [hu.len]; exact ht
 have cells : ∀ (q v : Nat) (r1 : V), q + v = n -> 0 < v -> Comes forward.K forward.f forward.s4 ⟨[(t : Int), (v : Int)], [], [wm G F S W O, r1, lz ((nS G f s w o n t).take v), b0, out]⟩ r := by
  intro q
  induction q with
  | zero =>
   intro v r1 hq hv
   have : v = n := by omega
   subst this
   rw [eK]
   have e := wG (y := lz (nS G f s w o v t)) hlt
   refine Comes.step aa forward.p9 [] ?_ ?_
   ·simp only [HM, FT, IB, ag, E.b, E.i, E.v, Env.ext, aO]; rw [m1, lf, hol]; omega
   ·simp only [Sub.ev, E.v, E.i, Env.ext, aO]
    rw [e]
    exact nx
  | succ q ih =>
   intro v r1 hq hv
   have hvn : v < n := by omega
   have nx2 := ih (v + 1) (lz ((nS G f s w o n t).take v)) (by omega) (by omega)
   rw [ff (bK _ hvn), <- mq (ly _)] at nx2
   have := oB h ht hvn (b1 := b0) hb (ly _) (by rw [List.length_take, bp]; omega) hol nx2
   refine Comes.step aa forward.p8 [] ?_ this
   simp only [HM, FT, IB, ag, E.b, E.i, E.v, Env.ext, aO]; rw [m1, lf, hol]; omega
 have c1 := cells (n - 1) 1 .nil (by omega) (by omega)
 rw [ff (bK (n := n) (v := 0) (FW G f s w o n t) (by omega)), List.take_zero, <- mq (x := .nil) (l := []) rfl] at c1
 have h0 := oB h ht (v := 0) (by omega) (row := .nil) (b1 := b0) (l := []) hb rfl (by simp) hol c1
 have h1 : Comes forward.K forward.f forward.s2 ⟨[(t : Int)], [], [wm G F S W O, b0, out]⟩ r := by
  refine Comes.step aa forward.p3 [] ?_ h0
  simp only [HM, FT, IB, ag, E.b, E.i, E.v, Env.ext, aO]; rw [m1, lf, hol, hnil]
  exact ⟨by omega, by omega, rfl, by omega, by omega⟩
 refine Comes.step aa forward.p1 [] ?_ h1
 simp only [HM, FT, IB, ag, E.b, E.i, E.v, Env.ext, aO]; rw [mo, lo]; omega
theorem kx (h : HV G f s w o n k F S W O) : ∃ X, cT X ((List.range o.length).map (nS G f s w o n)) /\ Fn prog forward.f [wm G F S W O] X := by
 have mo : (wm G F S W O).get 1 = O := rfl
 obtain ⟨lf, ls, lw, lo⟩ := h.lens
 have hlo := h.so.l8
 have loop : ∀ (q t : Nat) (t' : Int) (b0 out : V), q + t = o.length -> t' = t -> Zs b0 (Ep G f s w o n t) -> tO o.length t (nS G f s w o n) out -> ∃ X, cT X ((List.range o.length).map (nS G f s w o n)) /\ Comes forward.K forward.f forward.s1 ⟨[t'], [], [wm G F S W O, b0, out]⟩ X := by
  intro q
  induction q with
  | zero =>
   intro t t' b0 out hq ht hb hu
   have : t = o.length := by omega
   subst ht this
   refine ⟨out, hu.Ah, Comes.last aa forward.p2 [] ?_ ?_⟩
   ·simp only [HM, FT, IB, ag, E.b, E.i, E.v, Env.ext, aO]; rw [mo, lo]; omega
   ·simp only [HM, FT, IB, ag, E.b, E.i, E.v, Env.ext, aO]
  | succ q ih =>
   intro t t' b0 out hq ht hb hu
   subst ht
   obtain ⟨X, q1, q2⟩ := ih (t + 1) ((t : Int) + 1) _ _ (by omega) (by omega) (ly _) (hu.put (by omega) (ly _))
   exact ⟨X, q1, xA h (by omega) hb hu q2⟩
 obtain ⟨X, q1, q2⟩ := loop o.length 0 0 .nil (V.rep (o.length : Int) .nil) (by omega) rfl rfl (DU _ _)
 refine ⟨X, q1, Fn.of (C := forward.K) forward.b (Comes.step aa forward.p0 [] ?_ ?_)⟩
 ·simp only [HM, FT, IB, ag, E.b, E.i, E.v, Env.ext, aO]; rw [mo, lo]; omega
 ·simp only [Sub.ev, E.v, E.i, Env.ext, aO]
  rw [mo, lo]
  exact q2
end
end X
namespace X
open Go Go.a9 Go.Sym
structure Down (T t : Nat) (g : Nat -> List Int) (x : V) : Prop where
 len : x.bx.length = T
 row : ∀ j, t <= j -> j < T -> Zs (x.get (j : Int)) (g j)
 rest : ∀ j, j < t -> x.get (j : Int) = .nil
theorem Down.cX {T t : Nat} {g : Nat -> List Int} {x : V} (h : Down T t g x) : x.len = (T : Int) := by simp [V.len, h.len]
theorem Down.put {T t : Nat} {g : Nat -> List Int} {x y : V} (h : Down T (t + 1) g x) (ht : t < T) (hy : Zs y (g t)) : Down T t g (x.set (t : Int) y) := by
 have hl : t < x.bx.length := by rw [h.len]; exact ht
 refine ⟨by simp [V.set, cf, h.len], fun j h1 h2 => ?_, fun j h1 => ?_⟩
 ·rw [nk hl]
  by_cases q : j = t
  ·rw [if_pos q, q]; exact hy
  ·rw [if_neg q]; exact h.row j (by omega) h2
 ·rw [nk hl, if_neg (by omega)]; exact h.rest j (by omega)
theorem Down.Ah {T : Nat} {g : Nat -> List Int} {x : V} (h : Down T 0 g x) : cT x ((List.range T).map g) := by
 refine ⟨by simp [h.len], fun j r hj => ?_⟩
 have hlt : j < T := by simpa using (List.getElem?_eq_some_iff.1 hj).1
 rw [List.getElem?_map, List.getElem?_range hlt] at hj
 simp at hj; subst hj
 exact h.row j (by omega) hlt
theorem Ea (T : Nat) (g : Nat -> List Int) : Down T T g (V.rep (T : Int) .nil) := by
 refine ⟨by simp [V.rep, cf], fun j h1 h2 => by omega, fun j h2 => ?_⟩
 simp [V.rep, V.get, cf, h2]
def BT (G : Int) (s w : List (List Int)) (o : List Int) (n t : Nat) : Nat -> Int := BW G s w o n (o.length - 1 - t)
abbrev oK (G : Int) (s w : List (List Int)) (o : List Int) (n t : Nat) : List Int := jO n (BT G s w o n t)
theorem Af {G : Int} {s w : List (List Int)} {o : List Int} {n t v : Nat} (h : t + 1 = o.length) : BT G s w o n t v = 1 := by
 unfold BT; rw [show o.length - 1 - t = 0 by omega]; rfl
theorem rH {G : Int} {s w : List (List Int)} {o : List Int} {n t v : Nat} (h : t + 1 < o.length) : BT G s w o n t v = ba n (fun u => si s v u * sh G w o (t + 1) u * BT G s w o n (t + 1) u) := by
 unfold BT
 rw [show o.length - 1 - t = (o.length - 1 - (t + 1)) + 1 by omega]
 show ba n _ = _
 rw [show o.length - 1 - (o.length - 1 - (t + 1)) = t + 1 by omega]
section
variable {G : Int} {f : List Int} {s w : List (List Int)} {o : List Int} {n k : Nat} {F S W O : V}
theorem g8.pN (H : g8 G f s w n k) (t : Nat) {v : Nat} (hv : v < n) : 0 <= BT G s w o n t v := H.pM _ v hv
theorem g8.B9 (H : g8 G f s w n k) (ho : o.length <= 8) (h1 : 1 <= o.length) (t : Nat) {v : Nat} (hv : v < n) : BT G s w o n t v <= 184884258895036416 := H.Ee (by omega) hv
theorem Db {a b : Int} {n k : Nat} (H : g8 G f s w n k) (ha : 0 <= a /\ a <= G) (hb : 0 <= b /\ b <= G) : 0 <= a * b /\ a * b <= 144 := by
 have g1 := H.g1
 have g2 := H.g2
 refine ⟨Int.mul_nonneg ha.1 hb.1, ?_⟩
 have := Int.mul_le_mul (show a <= 12 by omega) (show b <= 12 by omega) hb.1 (by omega)
 omega
theorem mX (h : HV G f s w o n k F S W O) {t v : Nat} (ht : t + 1 < o.length) (hv : v < n) {row b1 v1 v2 out r : V} {x0 : Int} {l : List Int} (hb : Zs b1 (oK G s w o n (t + 1))) (hU : Zs row l) (hlr : l.length <= 100) (hol : out.len = (o.length : Int))
  (nx : Comes backward.K backward.f backward.s3 ⟨[(v : Int) + 1, (t : Int)], [], [wm G F S W O, row.snoc (.int (BT G s w o n t v)), out, b1]⟩ r) :
  Comes backward.K backward.f backward.s4 ⟨[x0, (t : Int), (v : Int), b1.len, 0, 0], [], [wm G F S W O, v1, v2, b1, out, row]⟩ r := by
 have m2 : ((wm G F S W O).get 0).get 2 = S := rfl
 obtain ⟨lf, ls, lw, lo⟩ := h.lens
 have hlo := h.so.l8
 have hn4 := h.H.n4
 have rl := hU.len
 have bl : b1.len = (n : Int) := by rw [hb.len]; simp [bp]
 have bat : ∀ u, u < n -> (b1.get (u : Int)).ab = BT G s w o n (t + 1) u := fun u hu => hb.get (bK _ hu)
 have fm := h.H.B9 (o := o) hlo h.so.l1 t hv
 rw [rH ht] at nx fm
 have nn : ∀ u, u < n -> 0 <= si s v u * sh G w o (t + 1) u * BT G s w o n (t + 1) u := fun u hu => Int.mul_nonneg (Int.mul_nonneg (h.H.si hv u).1 (h.H.sh _ hu).1) (h.H.pN _ hu)
 have loop : ∀ (q u : Nat) (u' sum : Int), q + u = n -> u' = u -> sum = ba u (fun u => si s v u * sh G w o (t + 1) u * BT G s w o n (t + 1) u) -> Comes backward.K backward.f backward.s4 ⟨[x0, (t : Int), (v : Int), b1.len, sum, u'], [], [wm G F S W O, v1, v2, b1, out, row]⟩ r := by
  intro q
  induction q with
  | zero =>
   intro u u' sum hq hu hs
   have : u = n := by omega
   subst hu this
   rw [<- hs] at nx
   refine Comes.step aa backward.CI [] ?_ nx
   simp only [HM, FT, IB, ag, E.b, E.i, E.v, Env.ext, aO]; rw [bl, hol, rl]; omega
  | succ q ih =>
   intro u u' sum hq hu hs
   subst hu
   have hun : u < n := by omega
   have nx2 := ih (u + 1) ((u : Int) + 1) (sum + si s v u * sh G w o (t + 1) u * BT G s w o n (t + 1) u) (by omega) (by omega) (by rw [aX, hs])
   obtain ⟨s1, s2⟩ := h.si (u := v) (v := u) hv hun
   have hb1 := bat u hun
   have sp := qA h (t := t + 1) (v := u) ht hun
   rw [Int.natCast_add] at sp
   have mono := ek (m := u + 1) (n := n) (by omega) nn
   rw [aX, <- hs] at mono
   have p0 := bN (n := u) (g := fun u => si s v u * sh G w o (t + 1) u * BT G s w o n (t + 1) u) fun i hi => nn i (by omega)
   rw [<- hs] at p0
   have p1 := nn u hun
   obtain ⟨p2, p3⟩ := Db h.H (h.H.si hv u) (h.H.sh (o := o) (t + 1) hun)
   refine Comes.step aa backward.p9 [.int (sh G w o (t + 1) u)] ?_ ?_
   ·simp only [HM, FT, IB, ag, E.b, E.i, E.v, Env.ext, aO]; rw [m2, ls, bl, s1, s2, hb1]
    generalize si s v u * sh G w o (t + 1) u = y at *
    generalize y * BT G s w o n (t + 1) u = z at *
    exact ⟨by omega, by omega, by omega, by omega, by omega, sp, by omega, by omega, by omega, by omega⟩
   ·simp only [Sub.ev, E.v, E.i, Env.ext, aO]
    rw [m2, s1, hb1]
    exact nx2
 exact loop n 0 0 0 (by omega) rfl rfl
theorem xm (l : List Int) : (lz l).isNil = false := rfl
def Ca (G : Int) (s w : List (List Int)) (o : List Int) (n t : Nat) : V := if t + 1 < o.length then lz (oK G s w o n (t + 1)) else .nil
theorem vU (h : HV G f s w o n k F S W O) {t : Nat} (ht : t < o.length) {out r : V} (hu : Down o.length (t + 1) (oK G s w o n) out)
  (nx : Comes backward.K backward.f backward.s1 ⟨[(t : Int) - 1], [], [wm G F S W O, lz (oK G s w o n t), out.set (t : Int) (lz (oK G s w o n t))]⟩ r) :
  Comes backward.K backward.f backward.s1 ⟨[(t : Int)], [], [wm G F S W O, Ca G s w o n t, out]⟩ r := by
 have m1 : ((wm G F S W O).get 0).get 1 = F := rfl
 obtain ⟨lf, ls, lw, lo⟩ := h.lens
 have hlo := h.so.l8
 have hn1 := h.H.n1
 have hn4 := h.H.n4
 have hol := hu.cX
 have hnil := hu.rest t (by omega)
 have hlt : t < out.bx.length := by rw [hu.len]; exact ht
 have t0 := bK (n := n) (v := 0) (BT G s w o n t) (by omega)
 have fin : Comes backward.K backward.f backward.s3 ⟨[(n : Int), (t : Int)], [], [wm G F S W O, lz ((oK G s w o n t).take n), out, Ca G s w o n t]⟩ r := by
  rw [eK]
  have e := wG (y := lz (oK G s w o n t)) hlt
  refine Comes.step aa backward.p8 [] ?_ ?_
  ·simp only [HM, FT, IB, ag, E.b, E.i, E.v, Env.ext, aO]; rw [m1, lf, hol]; omega
  ·simp only [Sub.ev, E.v, E.i, Env.ext, aO]
   rw [e]
   exact nx
 have h1 : Comes backward.K backward.f backward.s2 ⟨[(t : Int)], [], [wm G F S W O, out, Ca G s w o n t]⟩ r := by
  by_cases hl : t + 1 < o.length
  ·have hb : Ca G s w o n t = lz (oK G s w o n (t + 1)) := by unfold Ca; rw [if_pos hl]
   rw [hb] at fin ⊢
   have cells : ∀ (q v : Nat), q + v = n -> 0 < v -> Comes backward.K backward.f backward.s3 ⟨[(v : Int), (t : Int)], [], [wm G F S W O, lz ((oK G s w o n t).take v), out, lz (oK G s w o n (t + 1))]⟩ r := by
    intro q
    induction q with
    | zero =>
     intro v hq hv
     have : v = n := by omega
     subst this
     exact fin
    | succ q ih =>
     intro v hq hv
     have hvn : v < n := by omega
     have nx2 := ih (v + 1) (by omega) (by omega)
     rw [ff (bK _ hvn), <- mq (ly _)] at nx2
     have := mX h hl hvn (b1 := lz (oK G s w o n (t + 1))) (v1 := lz ((oK G s w o n t).take v)) (v2 := out) (x0 := (v : Int)) (ly _) (ly _) (by rw [List.length_take, bp]; omega) hol nx2
     refine Comes.step aa backward.p7 [] ?_ this
     simp only [HM, FT, IB, ag, E.b, E.i, E.v, Env.ext, aO]; rw [m1, lf, hol]; exact ⟨by omega, by omega, by omega, xm _⟩
   have c1 := cells (n - 1) 1 (by omega) (by omega)
   rw [ff t0, List.take_zero, <- mq (x := .nil) (l := []) rfl] at c1
   have h0 := mX h hl (v := 0) (by omega) (row := .nil) (b1 := lz (oK G s w o n (t + 1))) (v1 := out) (v2 := lz (oK G s w o n (t + 1))) (x0 := (t : Int)) (l := []) (ly _) rfl (by simp) hol c1
   refine Comes.step aa backward.p4 [] ?_ h0
   simp only [HM, FT, IB, ag, E.b, E.i, E.v, Env.ext, aO]; rw [m1, lf, hol, hnil]
   exact ⟨by omega, by omega, rfl, by omega, by omega, xm _⟩
  ·have hb : Ca G s w o n t = .nil := by unfold Ca; rw [if_neg hl]
   rw [hb] at fin ⊢
   have one : ∀ v, BT G s w o n t v = 1 := fun v => Af (by omega)
   have cells : ∀ (q v : Nat), q + v = n -> 0 < v -> Comes backward.K backward.f backward.s3 ⟨[(v : Int), (t : Int)], [], [wm G F S W O, lz ((oK G s w o n t).take v), out, .nil]⟩ r := by
    intro q
    induction q with
    | zero =>
     intro v hq hv
     have : v = n := by omega
     subst this
     exact fin
    | succ q ih =>
     intro v hq hv
     have hvn : v < n := by omega
     have nx2 := ih (v + 1) (by omega) (by omega)
     rw [ff (bK _ hvn), <- mq (ly _), one] at nx2
     have rl := (ly ((oK G s w o n t).take v)).len
     rw [List.length_take, bp] at rl
     refine Comes.step aa backward.p6 [] ?_ nx2
     simp only [HM, FT, IB, ag, E.b, E.i, E.v, Env.ext, aO]; rw [m1, lf, hol, rl]; exact ⟨by omega, by omega, by omega, rfl, by omega, by omega, by omega, by omega, by omega⟩
   have c1 := cells (n - 1) 1 (by omega) (by omega)
   rw [ff t0, List.take_zero, <- mq (x := .nil) (l := []) rfl, one] at c1
   refine Comes.step aa backward.p3 [] ?_ c1
   simp only [HM, FT, IB, ag, E.b, E.i, E.v, Env.ext, aO]; rw [m1, lf, hol, hnil]
   exact ⟨by omega, by omega, rfl, by omega, by omega, rfl, by omega, by omega, by omega⟩
 refine Comes.step aa backward.p1 [] ?_ h1
 simp only [HM, FT, IB, ag, E.b, E.i, E.v, Env.ext, aO]; omega
theorem tN (h : HV G f s w o n k F S W O) : ∃ X, cT X ((List.range o.length).map (oK G s w o n)) /\ Fn prog backward.f [wm G F S W O] X := by
 have mo : (wm G F S W O).get 1 = O := rfl
 obtain ⟨lf, ls, lw, lo⟩ := h.lens
 have hlo := h.so.l8
 have hl1 := h.so.l1
 have loop : ∀ (q : Nat) (b0 out : V), q <= o.length -> (q = 0 \/ ∃ t, q = t + 1 /\ b0 = Ca G s w o n t) -> Down o.length q (oK G s w o n) out -> ∃ X, cT X ((List.range o.length).map (oK G s w o n)) /\ Comes backward.K backward.f backward.s1 ⟨[(q : Int) - 1], [], [wm G F S W O, b0, out]⟩ X := by
  intro q
  induction q with
  | zero =>
   intro b0 out hq hb hu
   refine ⟨out, hu.Ah, Comes.last aa backward.p2 [] ?_ ?_⟩
   ·simp only [HM, FT, IB, ag, E.b, E.i, E.v, Env.ext, aO]; omega
   ·simp only [HM, FT, IB, ag, E.b, E.i, E.v, Env.ext, aO]
  | succ q ih =>
   intro b0 out hq hb hu
   rcases hb with hb | ⟨t, ht, rfl⟩
   ·omega
   obtain rfl : q = t := by omega
   have e : Ca G s w o n (q - 1) = lz (oK G s w o n q) \/ q = 0 := by
    by_cases h0 : q = 0
    ·exact .inr h0
    ·left; unfold Ca; rw [if_pos (by omega), show q - 1 + 1 = q by omega]
   obtain ⟨X, q1, q2⟩ := ih (lz (oK G s w o n q)) _ (by omega) (by
    rcases e with e | e
    ·by_cases h0 : q = 0
     ·exact .inl h0
     ·exact .inr ⟨q - 1, by omega, e.symm⟩
    ·exact .inl e) (hu.put (by omega) (ly _))
   refine ⟨X, q1, ?_⟩
   rw [show ((q + 1 : Nat) : Int) - 1 = (q : Int) by omega]
   exact vU h (by omega) hu q2
 obtain ⟨X, q1, q2⟩ := loop o.length .nil (V.rep (o.length : Int) .nil) (by omega) (.inr ⟨o.length - 1, by omega, by unfold Ca; rw [if_neg (by omega)]⟩) (Ea _ _)
 refine ⟨X, q1, Fn.of (C := backward.K) backward.b (Comes.step aa backward.p0 [] ?_ ?_)⟩
 ·simp only [HM, FT, IB, ag, E.b, E.i, E.v, Env.ext, aO]; rw [mo, lo]; omega
 ·simp only [Sub.ev, E.v, E.i, Env.ext, aO]
  rw [mo, lo]
  exact q2
end
end X
namespace X
open Go Go.a9 Go.Sym
def CQ (k : Int) (x : Int) : Bool := decide (-1 <= x /\ x < k)
def gj (o : List Int) (k : Int) : Bool := o.all (CQ k) && decide (1 <= o.length /\ o.length <= 8)
def bC (G : Int) (f : List Int) (s w : List (List Int)) (o : List Int) : Int := if mS G f s w = false then 170 else if gj o (kQ w) then 0 else 2
section
variable {G : Int} {f : List Int} {s w : List (List Int)} {F S W O : V} {o : List Int}
theorem xn {k x : Int} (h1 : -1 <= x) (h2 : x < k) : CQ k x = true := decide_eq_true ⟨h1, h2⟩
theorem BK {k x : Int} (h : x < -1) : CQ k x = false := decide_eq_false (by omega)
theorem BL {k x : Int} (h : k <= x) : CQ k x = false := decide_eq_false (by omega)
theorem yG (M : HMod G F S W f s w) (hw : 0 < w.length) (hO : Zs O o) (hl : o.length <= 10) : Fn prog jP.f [hm G F S W, O] (.bool (gj o (kQ w))) := by
 have m3 : (hm G F S W).get 3 = W := rfl
 have lw := M.Bk.cX
 have lo := hO.len
 have hw0 := vK M.Bk hw
 have loop : ∀ (t i : Nat) (i' : Int), t + i = o.length -> i' = i -> Comes jP.K jP.f jP.s1 ⟨[i'], [], [hm G F S W, O]⟩ (.bool ((o.drop i).all (CQ (kQ w)) && decide (1 <= o.length /\ o.length <= 8))) := by
  intro t
  induction t with
  | zero =>
   intro i i' ht hi
   subst hi
   rw [List.drop_eq_nil_of_le (by omega)]
   by_cases h1 : 1 <= o.length
   ·refine Comes.last aa jP.p4 [] ?_ ?_
    ·simp only [HM, FT, IB, ag, E.b, E.i, E.v, Env.ext, aO]; rw [lo]; omega
    ·simp only [HM, FT, IB, ag, E.b, E.i, E.v, Env.ext, aO]; rw [lo]
     by_cases h8 : o.length <= 8
     ·rw [show decide (1 <= o.length /\ o.length <= 8) = true from decide_eq_true ⟨h1, h8⟩, show Cv (o.length : Int) 8 = true from ao.2 (by omega)]; rfl
     ·rw [show decide (1 <= o.length /\ o.length <= 8) = false from decide_eq_false (by omega), show Cv (o.length : Int) 8 = false from aE.2 (by omega)]; rfl
   ·refine Comes.last aa jP.p5 [] ?_ ?_
    ·simp only [HM, FT, IB, ag, E.b, E.i, E.v, Env.ext, aO]; rw [lo]; omega
    ·rw [show decide (1 <= o.length /\ o.length <= 8) = false from decide_eq_false (by omega)]; rfl
  | succ t ih =>
   intro i i' ht hi
   subst hi
   obtain ⟨x, hx⟩ : ∃ e', o[i]? = some e' := ⟨_, List.getElem?_eq_getElem (by omega)⟩
   have gx := hO.get hx
   rw [drop_cons' hx, List.all_cons]
   by_cases a : x < -1
   ·rw [BK a]
    refine Comes.last aa jP.p1 [] ?_ rfl
    simp only [HM, FT, IB, ag, E.b, E.i, E.v, Env.ext, aO]; rw [lo, gx]; omega
   ·by_cases b : (kQ w : Int) <= x
    ·rw [BL b]
     refine Comes.last aa jP.p2 [] ?_ rfl
     simp only [HM, FT, IB, ag, E.b, E.i, E.v, Env.ext, aO]; rw [m3, lo, lw, gx, hw0]; omega
    ·rw [xn (by omega) (by omega), Bool.true_and]
     refine Comes.step aa jP.p3 [] ?_ (ih (i + 1) ((i : Int) + 1) (by omega) (by omega))
     simp only [HM, FT, IB, ag, E.b, E.i, E.v, Env.ext, aO]; rw [m3, lo, lw, gx, hw0]; omega
 exact Fn.of (C := jP.K) jP.b (Comes.step aa jP.p0 [] trivial (loop o.length 0 0 (by omega) rfl))
theorem By (h : mS G f s w = true) : 0 < w.length := by
 obtain ⟨n, k, H⟩ := vr.1 h
 have := H.wl; have := H.n1; omega
theorem fy (M : HMod G F S W f s w) (hO : Zs O o) (hl : o.length <= 10) : Fn prog gJ.f [hm G F S W, O] (.int (bC G f s w o)) := by
 have f1 := wQ M
 refine Fn.of (C := gJ.K) gJ.b ?_
 unfold bC
 cases h : mS G f s w with
 | false =>
  rw [h] at f1
  refine Comes.last aa gJ.p0 [.bool false] ?_ rfl
  simp only [HM, FT, IB, ag, E.b, E.i, E.v, Env.ext, aO]; exact f1
 | true =>
  rw [h] at f1
  have f2 := yG M (By h) hO hl
  cases h2 : gj o (kQ w) with
  | false =>
   rw [h2] at f2
   refine Comes.last aa gJ.p1 [.bool true, .bool false] ?_ rfl
   simp only [HM, FT, IB, ag, E.b, E.i, E.v, Env.ext, aO]; exact ⟨f1, f2⟩
  | true =>
   rw [h2] at f2
   refine Comes.last aa gJ.p2 [.bool true, .bool true] ?_ rfl
   simp only [HM, FT, IB, ag, E.b, E.i, E.v, Env.ext, aO]; exact ⟨f1, f2⟩
def DO : V := .list [.list [.int 0, .nil, .nil, .nil], .nil]
theorem rK (M : HMod G F S W f s w) (hO : Zs O o) (hl : o.length <= 10) : Fn prog watch.f [hm G F S W, O] (if bC G f s w o = 0 then .list [wm G F S W O, .int 0] else .list [DO, .int (bC G f s w o)]) := by
 have m3 : (hm G F S W).get 3 = W := rfl
 have lw := M.Bk.cX
 have lo := hO.len
 have f1 := xo M
 refine Fn.of (C := watch.K) watch.b ?_
 cases h : mS G f s w with
 | false =>
  rw [h] at f1
  have e : bC G f s w o = 170 := by unfold bC; rw [if_pos h]
  rw [e]
  refine Comes.last aa watch.p0 [.bool false] ?_ rfl
  simp only [HM, FT, IB, ag, E.b, E.i, E.v, Env.ext, aO]; exact f1
 | true =>
  rw [h] at f1
  have hw0 := vK M.Bk (By h)
  have hwl := By h
  have bad : gj o (kQ w) = false -> bC G f s w o = 2 := by
   intro q; unfold bC; rw [if_neg (by simp [h]), q]; rfl
  by_cases a1 : o.length < 1
  ·rw [bad (by unfold gj; rw [show decide (1 <= o.length /\ o.length <= 8) = false from decide_eq_false (by omega)]; simp)]
   refine Comes.last aa watch.p1 [.bool true] ?_ rfl
   simp only [HM, FT, IB, ag, E.b, E.i, E.v, Env.ext, aO]; rw [lo]; exact ⟨f1, by omega⟩
  by_cases a2 : 8 < o.length
  ·rw [bad (by unfold gj; rw [show decide (1 <= o.length /\ o.length <= 8) = false from decide_eq_false (by omega)]; simp)]
   refine Comes.last aa watch.p2 [.bool true] ?_ rfl
   simp only [HM, FT, IB, ag, E.b, E.i, E.v, Env.ext, aO]; rw [lo]; exact ⟨f1, by omega, by omega⟩
  have hso : gj o (kQ w) = o.all (CQ (kQ w)) := by
   unfold gj; rw [show decide (1 <= o.length /\ o.length <= 8) = true from decide_eq_true ⟨by omega, by omega⟩]; simp
  have loop : ∀ (t i : Nat) (i' : Int), t + i = o.length -> i' = i -> gj o (kQ w) = (o.drop i).all (CQ (kQ w)) -> Comes watch.K watch.f watch.s1 ⟨[i'], [], [hm G F S W, O, .bool true]⟩ (if bC G f s w o = 0 then .list [wm G F S W O, .int 0] else .list [DO, .int (bC G f s w o)]) := by
   intro t
   induction t with
   | zero =>
    intro i i' ht hi he
    subst hi
    rw [List.drop_eq_nil_of_le (by omega)] at he
    have : bC G f s w o = 0 := by unfold bC; rw [if_neg (by simp [h]), he]; rfl
    rw [if_pos this]
    refine Comes.last aa watch.p7 [] ?_ rfl
    simp only [HM, FT, IB, ag, E.b, E.i, E.v, Env.ext, aO]; rw [lo]; omega
   | succ t ih =>
    intro i i' ht hi he
    subst hi
    obtain ⟨x, hx⟩ : ∃ e', o[i]? = some e' := ⟨_, List.getElem?_eq_getElem (by omega)⟩
    have gx := hO.get hx
    rw [drop_cons' hx, List.all_cons] at he
    by_cases a : x < -1
    ·rw [BK a] at he
     rw [bad (by rw [he]; rfl)]
     refine Comes.last aa watch.p4 [] ?_ rfl
     simp only [HM, FT, IB, ag, E.b, E.i, E.v, Env.ext, aO]; rw [lo, gx]; omega
    ·by_cases b : (kQ w : Int) <= x
     ·rw [BL b] at he
      rw [bad (by rw [he]; rfl)]
      refine Comes.last aa watch.p5 [] ?_ rfl
      simp only [HM, FT, IB, ag, E.b, E.i, E.v, Env.ext, aO]; rw [m3, lo, lw, gx, hw0]; omega
     ·rw [xn (by omega) (by omega), Bool.true_and] at he
      refine Comes.step aa watch.p6 [] ?_ (ih (i + 1) ((i : Int) + 1) (by omega) (by omega) he)
      simp only [HM, FT, IB, ag, E.b, E.i, E.v, Env.ext, aO]; rw [m3, lo, lw, gx, hw0]; omega
  refine Comes.step aa watch.p3 [.bool true] ?_ (loop o.length 0 0 (by omega) rfl (by rw [hso, List.drop_zero]))
  simp only [HM, FT, IB, ag, E.b, E.i, E.v, Env.ext, aO]; rw [lo]; exact ⟨f1, by omega, by omega⟩
theorem g8.hd {n k : Nat} (H : g8 G f s w n k) : kQ w = k := by
 unfold kQ
 cases hw : w with
 | nil => have := H.wl; have := H.n1; rw [hw] at *; simp at *; omega
 | cons a l =>
  have := (cy.1 (H.wr a (by rw [hw]; simp))).1
  simp; omega
theorem Ec (M : HMod G F S W f s w) (hO : Zs O o) (h : bC G f s w o = 0) : ∃ n k, HV G f s w o n k F S W O := by
 unfold bC at h
 cases ho : mS G f s w with
 | false => rw [if_pos ho] at h; omega
 | true =>
  rw [if_neg (by simp [ho])] at h
  obtain ⟨n, k, H⟩ := vr.1 ho
  cases h2 : gj o (kQ w) with
  | false => rw [h2] at h; simp at h
  | true =>
   unfold gj at h2
   simp only [Bool.and_eq_true, decide_eq_true_eq, List.all_eq_true, CQ] at h2
   refine ⟨n, k, H, ⟨h2.2.1, h2.2.2, fun x hx => ?_⟩, M.first, M.step, M.Bk, hO⟩
   have := h2.1 x hx
   rw [H.hd] at this
   exact this
theorem HV.code {n k : Nat} (h : HV G f s w o n k F S W O) : bC G f s w o = 0 := by
 have ho : mS G f s w = true := vr.2 ⟨n, k, h.H⟩
 unfold bC
 rw [if_neg (by simp [ho])]
 have : gj o (kQ w) = true := by
  unfold gj
  simp only [Bool.and_eq_true, decide_eq_true_eq, List.all_eq_true, CQ]
  refine ⟨fun x hx => ?_, h.so.l1, h.so.l8⟩
  rw [h.H.hd]; exact h.so.x x hx
 rw [this]; rfl
theorem HV.mod {n k : Nat} (h : HV G f s w o n k F S W O) : HMod G F S W f s w := h.H.mod h.F h.S h.W
theorem kS {n k : Nat} (h : HV G f s w o n k F S W O) : Fn prog watch.f [hm G F S W, O] (.list [wm G F S W O, .int 0]) := by
 have := rK h.mod h.O (by have := h.so.l8; omega)
 rw [if_pos h.code] at this; exact this
theorem oU (M : HMod G F S W f s w) (hO : Zs O o) (hl : o.length <= 10) (h : ¬ bC G f s w o = 0) : Fn prog watch.f [hm G F S W, O] (.list [DO, .int (bC G f s w o)]) := by
 have := rK M hO hl
 rw [if_neg h] at this; exact this
theorem xp {x : V} {l : List Int} (hx : Zs x l) (hl : l.length <= 1000) (h0 : ∀ i, i < l.length -> 0 <= l.getD i 0) (hs : l.sum <= 184884258895036416) : Fn prog iQ.f [x] (.int l.sum) := by
 have xl := hx.len
 rw [<- fX] at hs
 have loop : ∀ (t i : Nat) (i' sum : Int), t + i = l.length -> i' = i -> sum = ba i (fun i => l.getD i 0) -> Comes iQ.K iQ.f iQ.s1 ⟨[sum, i'], [], [x]⟩ (.int l.sum) := by
  intro t
  induction t with
  | zero =>
   intro i i' sum ht hi hsum
   subst hi
   have : i = l.length := by omega
   subst this
   rw [fX] at hsum
   refine Comes.last aa iQ.p2 [] ?_ ?_
   ·simp only [HM, FT, IB, ag, E.b, E.i, E.v, Env.ext, aO]; rw [xl]; omega
   ·simp only [HM, FT, IB, ag, E.b, E.i, E.v, Env.ext, aO]; rw [hsum]
  | succ t ih =>
   intro i i' sum ht hi hsum
   subst hi
   have hil : i < l.length := by omega
   have gx := hx.at hil
   have mono := ek (m := i + 1) (n := l.length) (by omega) h0
   rw [aX, <- hsum] at mono
   have p0 := bN (n := i) (g := fun i => l.getD i 0) fun j hj => h0 j (by omega)
   rw [<- hsum] at p0
   have p1 := h0 i hil
   have nx := ih (i + 1) ((i : Int) + 1) (sum + l.getD i 0) (by omega) (by omega) (by rw [aX, hsum])
   refine Comes.step aa iQ.p1 [] ?_ ?_
   ·simp only [HM, FT, IB, ag, E.b, E.i, E.v, Env.ext, aO]; rw [xl, gx]; omega
   ·simp only [Sub.ev, E.v, E.i, Env.ext, aO]
    rw [gx]; exact nx
 exact Fn.of (C := iQ.K) iQ.b (Comes.step aa iQ.p0 [] trivial (loop l.length 0 0 0 (by omega) rfl rfl))
end
end X
namespace X
open Go Go.a9 Go.Sym
section
variable {G : Int} {f : List Int} {s w : List (List Int)} {o : List Int} {n k : Nat} {F S W O : V}
def fm (G : Int) (f : List Int) (s w : List (List Int)) (o : List Int) (n : Nat) : Int := ba n (FW G f s w o n (o.length - 1))
theorem HV.fm (h : HV G f s w o n k F S W O) : 0 <= X.fm G f s w o n /\ X.fm G f s w o n <= 184884258895036416 := by
 have h8 := h.so.l8
 have h1 := h.so.l1
 exact ⟨bN fun i hi => h.H.bW _ i hi, h.H.yU (by omega)⟩
theorem yO {x : V} {m : Nat} (hx : x.len = m) (h1 : 1 <= m) (h2 : m <= 1000) : Fn prog uL.f [x] (x.get ((m - 1 : Nat) : Int)) := by
 refine Fn.of (C := uL.K) uL.b (Comes.last aa uL.p0 [] ?_ ?_)
 ·simp only [HM, FT, IB, ag, E.b, E.i, E.v, Env.ext, aO]; rw [hx]; omega
 ·simp only [HM, FT, IB, ag, E.b, E.i, E.v, Env.ext, aO]; rw [hx, show (m : Int) - 1 = ((m - 1 : Nat) : Int) by omega]
theorem kY {g : Nat -> List Int} {x : V} {T t : Nat} (hX : cT x ((List.range T).map g)) (ht : t < T) : Zs (x.get (t : Int)) (g t) :=
 hX.row t _ (by rw [List.getElem?_map, List.getElem?_range ht]; rfl)
theorem ji {g : Nat -> List Int} {x : V} {T : Nat} (hX : cT x ((List.range T).map g)) : x.len = T := by rw [hX.cX]; simp
theorem sV {v t : Nat} (hv : v < n) : (nS G f s w o n t).getD v 0 = FW G f s w o n t v := by
 have := bK (FW G f s w o n t) hv
 rw [List.getD_eq_getElem?_getD, this]; rfl
theorem nF (h : HV G f s w o n k F S W O) {Z : V} (hX : cT Z ((List.range o.length).map (nS G f s w o n))) : Fn prog uL.f [Z] (Z.get ((o.length - 1 : Nat) : Int)) /\ Fn prog iQ.f [Z.get ((o.length - 1 : Nat) : Int)] (.int (X.fm G f s w o n)) := by
 have h8 := h.so.l8
 have h1 := h.so.l1
 have hz := kY hX (t := o.length - 1) (by omega)
 refine ⟨yO (ji hX) h1 (by omega), ?_⟩
 have hn := h.H.n4
 refine xp (l := nS G f s w o n (o.length - 1)) hz (by rw [bp]; omega) (fun i hi => ?_) ?_
 ·rw [bp] at hi
  rw [sV hi]; exact h.H.bW _ i hi
 ·exact h.fm.2
theorem qq (h : HV G f s w o n k F S W O) (h0 : ¬ X.fm G f s w o n = 0) : ∃ Y, cT Y ((List.range o.length).map (nS G f s w o n)) /\ Fn prog possible.f [wm G F S W O] (.list [Y, .int 0]) := by
 obtain ⟨Y, q1, q2⟩ := kx h
 obtain ⟨q3, q4⟩ := nF h q1
 refine ⟨Y, q1, Fn.of (C := possible.K) possible.b (Comes.last aa possible.p1 [Y, Y.get ((o.length - 1 : Nat) : Int), .int (X.fm G f s w o n)] ?_ rfl)⟩
 simp only [HM, FT, IB, ag, E.b, E.i, E.v, Env.ext, aO]
 exact ⟨q2, q3, q4, h0⟩
theorem mQ (h : HV G f s w o n k F S W O) (h0 : X.fm G f s w o n = 0) : Fn prog possible.f [wm G F S W O] (.list [.nil, .int 7]) := by
 obtain ⟨Y, q1, q2⟩ := kx h
 obtain ⟨q3, q4⟩ := nF h q1
 refine Fn.of (C := possible.K) possible.b (Comes.last aa possible.p0 [Y, Y.get ((o.length - 1 : Nat) : Int), .int (X.fm G f s w o n)] ?_ rfl)
 simp only [HM, FT, IB, ag, E.b, E.i, E.v, Env.ext, aO]
 exact ⟨q2, q3, q4, h0⟩
def jH (a b : Int) : V := can a.toNat b.toNat
theorem Cp {a b : Int} (ha : 0 <= a) (h2 : a <= 184884258895036416) (hb : 0 < b) (hb2 : b <= 184884258895036416) : Fn prog eA.f [.int a, .int b] (.list [jH a b, .int 0]) := by
 have := A6 (n := a.toNat) (d := b.toNat) (by omega) (by unfold nO; omega) (by unfold nO; omega)
 rw [Int.toNat_of_nonneg ha, Int.toNat_of_nonneg (by omega)] at this
 exact this
theorem EM {a b : Int} (ha : 0 <= a) (h2 : a <= 184884258895036416) (hb : 0 < b) (hb2 : b <= 184884258895036416) : Fn prog iN.f [.int a, .int b] (jH a b) := by
 have := Dz (a := a.toNat) (b := b.toNat) (by unfold nO; omega) (by unfold nO; omega) (by omega)
 rw [Int.toNat_of_nonneg ha, Int.toNat_of_nonneg (by omega)] at this
 exact this
theorem g8.CS (H : g8 G f s w n k) {m : Nat} (hm : m <= 16) : 1 <= G ^ m /\ G ^ m <= 184884258895036416 := ⟨(sx H.g1 H.g2 m).2, n8 H.g1 H.g2 hm⟩
theorem gg {G : Int} (h1 : 1 <= G) (h2 : G <= 12) : 1 <= G * G /\ G * G <= 144 := by
 have a := Int.mul_le_mul h2 h2 (by omega) (by omega : (0 : Int) <= 12)
 have b := Int.mul_le_mul h1 h1 (by omega) (by omega : (0 : Int) <= G)
 omega
theorem xr (h : HV G f s w o n k F S W O) : Fn prog iR.f [hm G F S W, O] (.list [jH (X.fm G f s w o n) (G ^ (2 * o.length)), .int 0]) := by
 obtain ⟨Y, q1, q2⟩ := kx h
 obtain ⟨q3, q4⟩ := nF h q1
 obtain ⟨t1, t2⟩ := h.fm
 obtain ⟨lf, ls, lw, lo⟩ := h.lens
 have h8 := h.so.l8
 have g1 := h.H.g1
 have g2 := h.H.g2
 obtain ⟨gg1, gg2⟩ := gg g1 g2
 have m0 : ((((V.list [wm G F S W O, .int 0]).get 0).get 0).get 0).ab = G := rfl
 have mo : (((V.list [wm G F S W O, .int 0]).get 0).get 1) = O := rfl
 obtain ⟨pw1, pw2⟩ := h.H.CS (m := 2 * o.length) (by omega)
 have mk := Cp (a := X.fm G f s w o n) (b := G ^ (2 * o.length)) t1 (by omega) (by omega) (by omega)
 have loop : ∀ (q t : Nat) (t' a : Int), q + t = o.length -> t' = t -> a = G ^ (2 * t) -> Comes iR.K iR.f iR.s1 ⟨[a, t'], [], [hm G F S W, O, .list [wm G F S W O, .int 0]]⟩ (.list [jH (X.fm G f s w o n) (G ^ (2 * o.length)), .int 0]) := by
  intro q
  induction q with
  | zero =>
   intro t t' a hq ht ha
   have : t = o.length := by omega
   subst ht ha this
   refine Comes.last aa iR.p3 [Y, Y.get ((o.length - 1 : Nat) : Int), .int (X.fm G f s w o n), .list [jH (X.fm G f s w o n) (G ^ (2 * o.length)), .int 0]] ?_ rfl
   simp only [HM, FT, IB, ag, E.b, E.i, E.v, Env.ext, aO]; rw [mo, lo]
   exact ⟨by omega, q2, q3, q4, mk⟩
  | succ q ih =>
   intro t t' a hq ht ha
   subst ht ha
   have e : G ^ (2 * t) * (G * G) = G ^ (2 * (t + 1)) := by rw [show 2 * (t + 1) = 2 * t + 1 + 1 by omega, Int.pow_succ, Int.pow_succ, Int.mul_assoc]
   obtain ⟨b1, b2⟩ := h.H.CS (m := 2 * (t + 1)) (by omega)
   refine Comes.step aa iR.p2 [] ?_ ?_
   ·simp only [HM, FT, IB, ag, E.b, E.i, E.v, Env.ext, aO]; rw [mo, lo, m0, e]; omega
   ·simp only [Sub.ev, E.v, E.i, Env.ext, aO]
    rw [m0, e]
    exact ih (t + 1) ((t : Int) + 1) _ (by omega) (by omega) rfl
 refine Fn.of (C := iR.K) iR.b (Comes.step aa iR.p1 [.list [wm G F S W O, .int 0]] ?_ (loop o.length 0 0 1 (by omega) rfl (by simp)))
 simp only [HM, FT, IB, ag, E.b, E.i, E.v, Env.ext, aO]
 exact ⟨kS h, rfl⟩
theorem AJ (M : HMod G F S W f s w) (hO : Zs O o) (hl : o.length <= 10) (h : ¬ bC G f s w o = 0) : Fn prog iR.f [hm G F S W, O] (.list [.list [.int 0, .int 0], .int (bC G f s w o)]) := by
 refine Fn.of (C := iR.K) iR.b (Comes.last aa iR.p0 [.list [DO, .int (bC G f s w o)]] ?_ rfl)
 simp only [HM, FT, IB, ag, E.b, E.i, E.v, Env.ext, aO]
 exact ⟨oU M hO hl h, h⟩
end
end X
namespace X
open Go Go.a9 Go.Sym
def fQ : List V -> V
 | [] => .nil
 | a :: l => .list (a :: l)
theorem jS (l : List V) : (fQ l).bx = l := by cases l <;> rfl
theorem gu (l : List V) : (fQ l).len = l.length := by simp [V.len, jS]
theorem nB (l : List V) (x : V) : (fQ l).snoc x = fQ (l ++ [x]) := by
 unfold V.snoc; rw [jS]
 cases l <;> rfl
theorem Av {l : List V} {i : Nat} (h : i < l.length) : (fQ l).get (i : Int) = l[i] := by
 rw [vN (by rw [jS]; exact h)]; simp [jS]
def shr (l : List Int) (d : Int) : V := fQ (l.map fun x => jH x d)
theorem r9 {l : List Int} {d x : Int} {i : Nat} (h : l[i]? = some x) : (fQ ((l.take i).map fun x => jH x d)).snoc (jH x d) = fQ ((l.take (i + 1)).map fun x => jH x d) := by
 rw [nB, ff h, List.map_append]; rfl
theorem xw {l : List Int} (h0 : ∀ i, i < l.length -> 0 <= l.getD i 0) {i : Nat} (hi : i < l.length) : l.getD i 0 <= l.sum := by
 rw [<- fX]; exact iH (g := fun i => l.getD i 0) hi h0
section
theorem qm {x : V} {l : List Int} (hx : Zs x l) (hl : l.length <= 1000) (h0 : ∀ i, i < l.length -> 0 <= l.getD i 0) (hs : l.sum <= 184884258895036416) : Fn prog jD.f [x] (.int l.sum) := by
 have xl := hx.len
 rw [<- fX] at hs
 have loop : ∀ (t i : Nat) (i' sum : Int), t + i = l.length -> i' = i -> sum = ba i (fun i => l.getD i 0) -> Comes jD.K jD.f jD.s1 ⟨[sum, i'], [], [x]⟩ (.int l.sum) := by
  intro t
  induction t with
  | zero =>
   intro i i' sum ht hi hsum
   subst hi
   have : i = l.length := by omega
   subst this
   rw [fX] at hsum
   refine Comes.last aa jD.p2 [] ?_ ?_
   ·simp only [HM, FT, IB, ag, E.b, E.i, E.v, Env.ext, aO]; rw [xl]; omega
   ·simp only [HM, FT, IB, ag, E.b, E.i, E.v, Env.ext, aO]; rw [hsum]
  | succ t ih =>
   intro i i' sum ht hi hsum
   subst hi
   have hil : i < l.length := by omega
   have gx := hx.at hil
   have mono := ek (m := i + 1) (n := l.length) (by omega) h0
   rw [aX, <- hsum] at mono
   have p0 := bN (n := i) (g := fun i => l.getD i 0) fun j hj => h0 j (by omega)
   rw [<- hsum] at p0
   have p1 := h0 i hil
   have nx := ih (i + 1) ((i : Int) + 1) (sum + l.getD i 0) (by omega) (by omega) (by rw [aX, hsum])
   refine Comes.step aa jD.p1 [] ?_ ?_
   ·simp only [HM, FT, IB, ag, E.b, E.i, E.v, Env.ext, aO]; rw [xl, gx]; omega
   ·simp only [Sub.ev, E.v, E.i, Env.ext, aO]
    rw [gx]; exact nx
 exact Fn.of (C := jD.K) jD.b (Comes.step aa jD.p0 [] trivial (loop l.length 0 0 0 (by omega) rfl rfl))
theorem n7 {x : V} {l : List Int} (hx : Zs x l) (hl : l.length <= 1000) (h0 : ∀ i, i < l.length -> 0 <= l.getD i 0) (hs : l.sum <= 184884258895036416) (hp : 0 < l.sum) : Fn prog eV.f [x] (shr l l.sum) := by
 have xl := hx.len
 have tt := qm hx hl h0 hs
 have loop : ∀ (t i : Nat) (i' : Int), t + i = l.length -> i' = i -> Comes eV.K eV.f eV.s1 ⟨[i'], [], [x, fQ ((l.take i).map fun x => jH x l.sum)]⟩ (shr l l.sum) := by
  intro t
  induction t with
  | zero =>
   intro i i' ht hi
   subst hi
   rw [List.take_of_length_le (by omega)]
   refine Comes.last aa eV.p2 [] ?_ rfl
   simp only [HM, FT, IB, ag, E.b, E.i, E.v, Env.ext, aO]; rw [xl]; omega
  | succ t ih =>
   intro i i' ht hi
   subst hi
   have hil : i < l.length := by omega
   have gx := hx.at hil
   have p1 := h0 i hil
   have p2 := xw h0 hil
   have gi : l[i]? = some (l.getD i 0) := by simp [hil]
   have ol : (fQ ((l.take i).map fun x => jH x l.sum)).len = (i : Int) := by rw [gu]; simp; omega
   have nx := ih (i + 1) ((i : Int) + 1) (by omega) (by omega)
   rw [<- r9 gi] at nx
   refine Comes.step aa eV.p1 [.int l.sum, jH (l.getD i 0) l.sum] ?_ nx
   simp only [HM, FT, IB, ag, E.b, E.i, E.v, Env.ext, aO]; rw [xl, ol, gx]
   exact ⟨by omega, by omega, tt, EM p1 (by omega) hp hs, by omega, by omega⟩
 exact Fn.of (C := eV.K) eV.b (Comes.step aa eV.p0 [] trivial (loop l.length 0 0 (by omega) rfl))
end
section
variable {G : Int} {f : List Int} {s w : List (List Int)} {o : List Int} {n k : Nat} {F S W O : V}
theorem g8.CT (H : g8 G f s w n k) {t : Nat} (h0 : ba n (FW G f s w o n t) = 0) : ba n (FW G f s w o n (t + 1)) = 0 := by
 have z : ∀ v, v < n -> FW G f s w o n t v = 0 := fun v hv => by
  have a := iH (g := FW G f s w o n t) hv fun i hi => H.bW t i hi
  have b := H.bW (o := o) t v hv
  omega
 have : ba n (FW G f s w o n (t + 1)) = ba n (fun _ => 0) := b6 fun v hv => by
  show ba n (fun u => FW G f s w o n t u * X.si s u v) * _ = 0
  rw [b6 (h := fun _ => 0 * (0 : Int)) fun u hu => by rw [z u hu]; simp, eJ]
  simp
 rw [this]
 have := eJ n (fun _ => 0) 0
 simpa using this
theorem g8.sU (H : g8 G f s w n k) : ∀ (d t : Nat), 0 < ba n (FW G f s w o n (t + d)) -> 0 < ba n (FW G f s w o n t)
 | 0, t, h => h
 | d + 1, t, h => by
  refine H.sU d t ?_
  have := bN (n := n) (g := FW G f s w o n (t + d)) fun i hi => H.bW _ i hi
  by_cases q : ba n (FW G f s w o n (t + d)) = 0
  ·have := H.CT q
   rw [show t + (d + 1) = t + d + 1 by omega] at h
   omega
  ·omega
theorem HV.sU (h : HV G f s w o n k F S W O) (h0 : ¬ X.fm G f s w o n = 0) {t : Nat} (ht : t < o.length) : 0 < ba n (FW G f s w o n t) := by
 have ht0 := h.fm.1
 refine h.H.sU (o := o) (o.length - 1 - t) t ?_
 rw [show t + (o.length - 1 - t) = o.length - 1 by omega]
 show 0 < X.fm G f s w o n
 omega
def nJ (G : Int) (f : List Int) (s w : List (List Int)) (o : List Int) (n T : Nat) : V := fQ ((List.range T).map fun t => shr (nS G f s w o n t) (ba n (FW G f s w o n t)))
theorem uM (T : Nat) : (nJ G f s w o n T).snoc (shr (nS G f s w o n T) (ba n (FW G f s w o n T))) = nJ G f s w o n (T + 1) := by
 unfold nJ; rw [nB, List.range_succ, List.map_append]; rfl
theorem xD (T : Nat) : (nJ G f s w o n T).len = T := by unfold nJ; rw [gu]; simp
theorem yQ (h : HV G f s w o n k F S W O) (h0 : ¬ X.fm G f s w o n = 0) : Fn prog bE.f [hm G F S W, O] (.list [nJ G f s w o n o.length, .int 0]) := by
 obtain ⟨Y, q1, q2⟩ := qq h h0
 obtain ⟨lf, ls, lw, lo⟩ := h.lens
 have h8 := h.so.l8
 have hn4 := h.H.n4
 have mo : (((V.list [wm G F S W O, .int 0]).get 0).get 1) = O := rfl
 have mY : (V.list [Y, .int 0]).get 0 = Y := rfl
 have yl := ji q1
 have loop : ∀ (q t : Nat) (t' : Int), q + t = o.length -> t' = t -> Comes bE.K bE.f bE.s1 ⟨[t'], [], [hm G F S W, O, .list [wm G F S W O, .int 0], .list [Y, .int 0], nJ G f s w o n t]⟩ (.list [nJ G f s w o n o.length, .int 0]) := by
  intro q
  induction q with
  | zero =>
   intro t t' hq ht
   have : t = o.length := by omega
   subst ht this
   refine Comes.last aa bE.p4 [] ?_ rfl
   simp only [HM, FT, IB, ag, E.b, E.i, E.v, Env.ext, aO]; rw [mo, lo]; omega
  | succ q ih =>
   intro t t' hq ht
   subst ht
   have hto : t < o.length := by omega
   have row := kY q1 hto
   have rl := row.len
   rw [bp] at rl
   have nx := ih (t + 1) ((t : Int) + 1) (by omega) (by omega)
   rw [<- uM] at nx
   have pos := h.sU h0 hto
   have tot2 := h.H.yU (o := o) (t := t) (by omega)
   have fl := xD (G := G) (f := f) (s := s) (w := w) (o := o) (n := n) t
   have nn : ∀ v, v < n -> 0 <= FW G f s w o n t v := fun v hv => h.H.bW t v hv
   have mk : ∀ (p v : Nat) (v' : Int), p + v = n -> v' = v -> Comes bE.K bE.f bE.s3 ⟨[ba n (FW G f s w o n t), v', (n : Int), (t : Int)], [], [hm G F S W, O, .list [wm G F S W O, .int 0], .list [Y, .int 0], fQ (((nS G f s w o n t).take v).map fun x => jH x (ba n (FW G f s w o n t))), Y.get (t : Int), nJ G f s w o n t]⟩ (.list [nJ G f s w o n o.length, .int 0]) := by
    intro p
    induction p with
    | zero =>
     intro v v' hp hv
     have : v = n := by omega
     subst hv this
     rw [eK]
     refine Comes.step aa bE.p8 [] ?_ nx
     simp only [HM, FT, IB, ag, E.b, E.i, E.v, Env.ext, aO]; rw [fl]; omega
    | succ p ihp =>
     intro v v' hp hv
     subst hv
     have hvn : v < n := by omega
     have gx := row.get (bK _ hvn)
     have nx2 := ihp (v + 1) ((v : Int) + 1) (by omega) (by omega)
     rw [<- r9 (bK _ hvn)] at nx2
     have one := iH (g := FW G f s w o n t) hvn nn
     have n0 := nn v hvn
     have cl : (fQ (((nS G f s w o n t).take v).map fun x => jH x (ba n (FW G f s w o n t)))).len = (v : Int) := by rw [gu]; simp [bp]; omega
     refine Comes.step aa bE.p7 [.list [jH (FW G f s w o n t v) (ba n (FW G f s w o n t)), .int 0]] ?_ nx2
     simp only [HM, FT, IB, ag, E.b, E.i, E.v, Env.ext, aO]; rw [rl, cl, gx]
     exact ⟨by omega, by omega, Cp n0 (by omega) pos tot2, by omega, by omega⟩
   have m0 := mk n 0 0 (by omega) rfl
   have sm : ∀ (p v : Nat) (v' a : Int), p + v = n -> v' = v -> a = ba v (FW G f s w o n t) -> Comes bE.K bE.f bE.s2 ⟨[a, v', (n : Int), (t : Int)], [], [hm G F S W, O, .list [wm G F S W O, .int 0], .list [Y, .int 0], Y.get (t : Int), nJ G f s w o n t]⟩ (.list [nJ G f s w o n o.length, .int 0]) := by
    intro p
    induction p with
    | zero =>
     intro v v' a hp hv ha
     have : v = n := by omega
     subst hv this
     subst ha
     refine Comes.step aa bE.p6 [] ?_ ?_
     ·simp only [HM, FT, IB, ag, E.b, E.i, E.v, Env.ext, aO]; omega
     ·simp only [Sub.ev, E.v, E.i, Env.ext, aO]
      rw [rl]
      exact m0
    | succ p ihp =>
     intro v v' a hp hv ha
     subst hv
     have hvn : v < n := by omega
     have gx := row.get (bK _ hvn)
     have mono := ek (g := FW G f s w o n t) (m := v + 1) (n := n) (by omega) nn
     rw [aX, <- ha] at mono
     have p0 := bN (n := v) (g := FW G f s w o n t) fun i hi => nn i (by omega)
     rw [<- ha] at p0
     have p1 := nn v hvn
     have nx2 := ihp (v + 1) ((v : Int) + 1) (a + FW G f s w o n t v) (by omega) (by omega) (by rw [aX, ha])
     refine Comes.step aa bE.p5 [] ?_ ?_
     ·simp only [HM, FT, IB, ag, E.b, E.i, E.v, Env.ext, aO]; rw [rl, gx]; omega
     ·simp only [Sub.ev, E.v, E.i, Env.ext, aO]
      rw [gx]; exact nx2
   have s0 := sm n 0 0 0 (by omega) rfl rfl
   refine Comes.step aa bE.p3 [] ?_ ?_
   ·simp only [HM, FT, IB, ag, E.b, E.i, E.v, Env.ext, aO]; rw [mo, mY, lo, yl]; omega
   ·simp only [Sub.ev, E.v, E.i, Env.ext, aO]
    rw [mY, rl]
    exact s0
 refine Fn.of (C := bE.K) bE.b (Comes.step aa bE.p2 [.list [wm G F S W O, .int 0], .list [Y, .int 0]] ?_ (loop o.length 0 0 (by omega) rfl))
 simp only [HM, FT, IB, ag, E.b, E.i, E.v, Env.ext, aO]
 exact ⟨kS h, rfl, q2, rfl⟩
theorem vM (h : HV G f s w o n k F S W O) (h0 : X.fm G f s w o n = 0) : Fn prog bE.f [hm G F S W, O] (.list [.nil, .int 7]) := by
 refine Fn.of (C := bE.K) bE.b (Comes.last aa bE.p1 [.list [wm G F S W O, .int 0], .list [.nil, .int 7]] ?_ rfl)
 simp only [HM, FT, IB, ag, E.b, E.i, E.v, Env.ext, aO]
 exact ⟨kS h, rfl, mQ h h0, by decide⟩
theorem xu (M : HMod G F S W f s w) (hO : Zs O o) (hl : o.length <= 10) (h : ¬ bC G f s w o = 0) : Fn prog bE.f [hm G F S W, O] (.list [.nil, .int (bC G f s w o)]) := by
 refine Fn.of (C := bE.K) bE.b (Comes.last aa bE.p0 [.list [DO, .int (bC G f s w o)]] ?_ rfl)
 simp only [HM, FT, IB, ag, E.b, E.i, E.v, Env.ext, aO]
 exact ⟨oU M hO hl h, h⟩
end
end X
namespace X
open Go Go.a9 Go.Sym
section
variable {G : Int} {f : List Int} {s w : List (List Int)} {o : List Int} {n k : Nat} {F S W O : V}
theorem AA {t : Nat} (ht : t + 1 < o.length) : ba n (fun v => FW G f s w o n t v * BT G s w o n t v) = ba n (fun v => FW G f s w o n (t + 1) v * BT G s w o n (t + 1) v) := by
 have e1 : ba n (fun v => FW G f s w o n t v * BT G s w o n t v) = ba n (fun v => ba n (fun u => FW G f s w o n t v * (si s v u * sh G w o (t + 1) u * BT G s w o n (t + 1) u))) :=
  b6 fun v hv => by rw [rH ht, sumR_mul']
 rw [e1, tW]
 refine b6 fun u hu => ?_
 show _ = ba n (fun v => FW G f s w o n t v * si s v u) * sh G w o (t + 1) u * BT G s w o n (t + 1) u
 rw [Int.mul_assoc, <- eJ]
 refine b6 fun v hv => ?_
 simp only [Int.mul_assoc]
theorem AB (h1 : 1 <= o.length) : ba n (fun v => FW G f s w o n (o.length - 1) v * BT G s w o n (o.length - 1) v) = fm G f s w o n := by
 unfold fm
 refine b6 fun v hv => ?_
 rw [Af (by omega), Int.mul_one]
theorem meet (h1 : 1 <= o.length) : ∀ (d t : Nat), t + d + 1 = o.length -> ba n (fun v => FW G f s w o n t v * BT G s w o n t v) = fm G f s w o n
 | 0, t, h => by
  have : t = o.length - 1 := by omega
  subst this; exact AB h1
 | d + 1, t, h => by rw [AA (by omega)]; exact meet h1 d (t + 1) (by omega)
end
end X
namespace X
open Go Go.a9 Go.Sym
section
variable {G : Int} {f : List Int} {s w : List (List Int)} {o : List Int} {n k : Nat} {F S W O : V}
def yp (G : Int) (f : List Int) (s w : List (List Int)) (o : List Int) (n t v : Nat) : Int := FW G f s w o n t v * BT G s w o n t v
abbrev Ct (G : Int) (f : List Int) (s w : List (List Int)) (o : List Int) (n t : Nat) : List Int := jO n (yp G f s w o n t)
def yo (G : Int) (f : List Int) (s w : List (List Int)) (o : List Int) (n T : Nat) : V := fQ ((List.range T).map fun t => shr (Ct G f s w o n t) (fm G f s w o n))
theorem wE (T : Nat) : (yo G f s w o n T).snoc (shr (Ct G f s w o n T) (fm G f s w o n)) = yo G f s w o n (T + 1) := by
 unfold yo; rw [nB, List.range_succ, List.map_append]; rfl
theorem zJ (T : Nat) : (yo G f s w o n T).len = T := by unfold yo; rw [gu]; simp
structure Dp (n i : Nat) (a b : Nat -> Int) (x : V) : Prop where
 len : x.bx.length = n
 at_ : ∀ j, j < i -> x.get (j : Int) = .list [.int (a j), .int (b j)]
theorem Dp.cX {n i : Nat} {a b : Nat -> Int} {x : V} (h : Dp n i a b x) : x.len = (n : Int) := by simp [V.len, h.len]
theorem Dp.put {n i : Nat} {a b : Nat -> Int} {x : V} (h : Dp n i a b x) (hi : i < n) : Dp n (i + 1) a b (x.set (i : Int) (.list [.int (a i), .int (b i)])) := by
 have hl : i < x.bx.length := by rw [h.len]; exact hi
 refine ⟨by simp [V.set, cf, h.len], fun j hj => ?_⟩
 rw [nk hl]
 by_cases q : j = i
 ·rw [if_pos q, q]
 ·rw [if_neg q]; exact h.at_ j (by omega)
theorem Ez (n : Nat) (a b : Nat -> Int) (y : V) : Dp n 0 a b (V.rep (n : Int) y) := ⟨by simp [V.rep, cf], fun j hj => by omega⟩
theorem CE (n : Nat) (y : V) : (V.rep (n : Int) y).len = n := by simp [V.rep, V.len, cf]
theorem wD (h : HV G f s w o n k F S W O) {t : Nat} (ht : t < o.length) : ba n (yp G f s w o n t) = X.fm G f s w o n /\ ∀ v, v < n -> 0 <= yp G f s w o n t v := by
 refine ⟨meet h.so.l1 (o.length - 1 - t) t (by omega), fun v hv => Int.mul_nonneg (h.H.bW t v hv) (h.H.pN t hv)⟩
theorem wC (h : HV G f s w o n k F S W O) (h0 : ¬ X.fm G f s w o n = 0) {t : Nat} (ht : t < o.length) {v0 v1 v2 v3 v4 st out r : V} (hst : Dp n n (FW G f s w o n t) (BT G s w o n t) st) {L : Int} (hol : out.len = (t : Int))
  (nx : Comes bg.K bg.f bg.s1 ⟨[(t : Int) + 1], [], [v0, v1, v2, v3, v4, out.snoc (shr (Ct G f s w o n t) (X.fm G f s w o n))]⟩ r) :
  Comes bg.K bg.f bg.s3 ⟨[(n : Int), 0, 0, (t : Int)], [], [v0, v1, v2, v3, v4, st, out]⟩ r := by
 have h8 := h.so.l8
 have hn4 := h.H.n4
 obtain ⟨mt, nn⟩ := wD h ht
 obtain ⟨t1, t2⟩ := h.fm
 have stl := hst.cX
 have g0 : ∀ v, v < n -> ((st.get (v : Int)).get 0).ab = FW G f s w o n t v := fun v hv => by rw [hst.at_ v hv]; rfl
 have g1 : ∀ v, v < n -> ((st.get (v : Int)).get 1).ab = BT G s w o n t v := fun v hv => by rw [hst.at_ v hv]; rfl
 have mk : ∀ (p v : Nat) (v' : Int), p + v = n -> v' = v -> Comes bg.K bg.f bg.s4 ⟨[(n : Int), X.fm G f s w o n, v', (t : Int)], [], [v0, v1, v2, v3, v4, st, fQ (((Ct G f s w o n t).take v).map fun x => jH x (X.fm G f s w o n)), out]⟩ r := by
  intro p
  induction p with
  | zero =>
   intro v v' hp hv
   have : v = n := by omega
   subst hv this
   rw [eK]
   refine Comes.step aa bg.CI [] ?_ nx
   simp only [HM, FT, IB, ag, E.b, E.i, E.v, Env.ext, aO]; rw [stl, hol]; omega
  | succ p ihp =>
   intro v v' hp hv
   subst hv
   have hvn : v < n := by omega
   have nx2 := ihp (v + 1) ((v : Int) + 1) (by omega) (by omega)
   rw [<- r9 (bK _ hvn)] at nx2
   have one := iH (g := yp G f s w o n t) hvn nn
   rw [mt] at one
   have n0 := nn v hvn
   have cl : (fQ (((Ct G f s w o n t).take v).map fun x => jH x (X.fm G f s w o n))).len = (v : Int) := by rw [gu]; simp [bp]; omega
   have e : FW G f s w o n t v * BT G s w o n t v = yp G f s w o n t v := rfl
   refine Comes.step aa bg.p9 [.list [jH (yp G f s w o n t v) (X.fm G f s w o n), .int 0]] ?_ nx2
   simp only [HM, FT, IB, ag, E.b, E.i, E.v, Env.ext, aO]; rw [stl, cl, g0 v hvn, g1 v hvn, e]
   exact ⟨by omega, by omega, by omega, by omega, Cp n0 (by omega) (by omega) t2, by omega, by omega⟩
 have sm : ∀ (p v : Nat) (v' a : Int), p + v = n -> v' = v -> a = ba v (yp G f s w o n t) -> Comes bg.K bg.f bg.s3 ⟨[(n : Int), a, v', (t : Int)], [], [v0, v1, v2, v3, v4, st, out]⟩ r := by
  intro p
  induction p with
  | zero =>
   intro v v' a hp hv ha
   have : v = n := by omega
   subst hv this
   rw [mt] at ha
   subst ha
   refine Comes.step aa bg.p8 [] ?_ (mk v 0 0 (by omega) rfl)
   simp only [HM, FT, IB, ag, E.b, E.i, E.v, Env.ext, aO]; omega
  | succ p ihp =>
   intro v v' a hp hv ha
   subst hv
   have hvn : v < n := by omega
   have mono := ek (g := yp G f s w o n t) (m := v + 1) (n := n) (by omega) nn
   rw [aX, <- ha, mt] at mono
   have p0 := bN (n := v) (g := yp G f s w o n t) fun i hi => nn i (by omega)
   rw [<- ha] at p0
   have p1 := nn v hvn
   have e : FW G f s w o n t v * BT G s w o n t v = yp G f s w o n t v := rfl
   have nx2 := ihp (v + 1) ((v : Int) + 1) (a + yp G f s w o n t v) (by omega) (by omega) (by rw [aX, ha])
   refine Comes.step aa bg.p7 [] ?_ ?_
   ·simp only [HM, FT, IB, ag, E.b, E.i, E.v, Env.ext, aO]; rw [stl, g0 v hvn, g1 v hvn, e]; omega
   ·simp only [Sub.ev, E.v, E.i, Env.ext, aO]
    rw [g0 v hvn, g1 v hvn, e]; exact nx2
 exact sm n 0 0 0 (by omega) rfl rfl
theorem yP (h : HV G f s w o n k F S W O) (h0 : ¬ X.fm G f s w o n = 0) : Fn prog bg.f [hm G F S W, O] (.list [yo G f s w o n o.length, .int 0]) := by
 obtain ⟨Y, q1, q2⟩ := qq h h0
 obtain ⟨Z, z1, z2⟩ := tN h
 obtain ⟨lf, ls, lw, lo⟩ := h.lens
 have h8 := h.so.l8
 have hn4 := h.H.n4
 have mo : (((V.list [wm G F S W O, .int 0]).get 0).get 1) = O := rfl
 have mY : (V.list [Y, .int 0]).get 0 = Y := rfl
 have yl := ji q1
 have zl := ji z1
 have loop : ∀ (q t : Nat) (t' : Int), q + t = o.length -> t' = t -> Comes bg.K bg.f bg.s1 ⟨[t'], [], [hm G F S W, O, .list [wm G F S W O, .int 0], .list [Y, .int 0], Z, yo G f s w o n t]⟩ (.list [yo G f s w o n o.length, .int 0]) := by
  intro q
  induction q with
  | zero =>
   intro t t' hq ht
   have : t = o.length := by omega
   subst ht this
   refine Comes.last aa bg.p4 [] ?_ rfl
   simp only [HM, FT, IB, ag, E.b, E.i, E.v, Env.ext, aO]; rw [mo, lo]; omega
  | succ q ih =>
   intro t t' hq ht
   subst ht
   have hto : t < o.length := by omega
   have row := kY q1 hto
   have rl := row.len
   rw [bp] at rl
   have rowz := kY z1 hto
   have rzl := rowz.len
   rw [bp] at rzl
   have nx := ih (t + 1) ((t : Int) + 1) (by omega) (by omega)
   rw [<- wE] at nx
   have sl := zJ (G := G) (f := f) (s := s) (w := w) (o := o) (n := n) t
   have fill : ∀ (p v : Nat) (v' : Int) (st : V), p + v = n -> v' = v -> Dp n v (FW G f s w o n t) (BT G s w o n t) st -> Comes bg.K bg.f bg.s2 ⟨[v', (t : Int), (n : Int)], [], [hm G F S W, O, .list [wm G F S W O, .int 0], .list [Y, .int 0], Z, st, yo G f s w o n t]⟩ (.list [yo G f s w o n o.length, .int 0]) := by
    intro p
    induction p with
    | zero =>
     intro v v' st hp hv hst
     have : v = n := by omega
     subst hv this
     have := wC h h0 hto (L := 0) hst sl nx
     refine Comes.step aa bg.p6 [] ?_ ?_
     ·simp only [HM, FT, IB, ag, E.b, E.i, E.v, Env.ext, aO]; omega
     ·simp only [Sub.ev, E.v, E.i, Env.ext, aO]
      rw [hst.cX]; exact this
    | succ p ihp =>
     intro v v' st hp hv hst
     subst hv
     have hvn : v < n := by omega
     have gx := row.get (bK _ hvn)
     have gz := rowz.get (bK _ hvn)
     have nx2 := ihp (v + 1) ((v : Int) + 1) _ (by omega) (by omega) (hst.put hvn)
     refine Comes.step aa bg.p5 [] ?_ ?_
     ·simp only [HM, FT, IB, ag, E.b, E.i, E.v, Env.ext, aO]; rw [mY, yl, zl, rl, rzl, hst.cX]; omega
     ·simp only [Sub.ev, E.v, E.i, Env.ext, aO]
      rw [mY, gx, gz]
      exact nx2
   have s0 := fill n 0 0 _ (by omega) rfl (Ez n _ _ (.list [.int 0, .int 0]))
   refine Comes.step aa bg.p3 [] ?_ ?_
   ·simp only [HM, FT, IB, ag, E.b, E.i, E.v, Env.ext, aO]; rw [mo, mY, lo, yl, rl]; omega
   ·simp only [Sub.ev, E.v, E.i, Env.ext, aO]
    rw [mY, rl, CE]
    exact s0
 refine Fn.of (C := bg.K) bg.b (Comes.step aa bg.p2 [.list [wm G F S W O, .int 0], .list [Y, .int 0], Z] ?_ (loop o.length 0 0 (by omega) rfl))
 simp only [HM, FT, IB, ag, E.b, E.i, E.v, Env.ext, aO]
 exact ⟨kS h, rfl, q2, rfl, z2⟩
theorem vL (h : HV G f s w o n k F S W O) (h0 : X.fm G f s w o n = 0) : Fn prog bg.f [hm G F S W, O] (.list [.nil, .int 7]) := by
 refine Fn.of (C := bg.K) bg.b (Comes.last aa bg.p1 [.list [wm G F S W O, .int 0], .list [.nil, .int 7]] ?_ rfl)
 simp only [HM, FT, IB, ag, E.b, E.i, E.v, Env.ext, aO]
 exact ⟨kS h, rfl, mQ h h0, by decide⟩
theorem xq (M : HMod G F S W f s w) (hO : Zs O o) (hl : o.length <= 10) (h : ¬ bC G f s w o = 0) : Fn prog bg.f [hm G F S W, O] (.list [.nil, .int (bC G f s w o)]) := by
 refine Fn.of (C := bg.K) bg.b (Comes.last aa bg.p0 [.list [DO, .int (bC G f s w o)]] ?_ rfl)
 simp only [HM, FT, IB, ag, E.b, E.i, E.v, Env.ext, aO]
 exact ⟨oU M hO hl h, h⟩
end
end X
namespace X
open Go Go.a9 Go.Sym
section
variable {G : Int} {f : List Int} {s w : List (List Int)} {o : List Int} {n k : Nat} {F S W O : V}
def NW (G : Int) (f : List Int) (s w : List (List Int)) (o : List Int) (n : Nat) : Nat -> Nat -> Int
 | 0, v => FW G f s w o n (o.length - 1) v
 | j + 1, v => ba n (fun r => NW G f s w o n j r * si s r v)
theorem nz {n : Nat} {g g' : Nat -> Int} (h : ∀ v, v < n -> g v = g' v) : jO n g = jO n g' := by
 unfold jO; apply List.map_congr_left; intro v hv; exact h v (List.mem_range.1 hv)
theorem Bs (n : Nat) (g : Nat -> Int) (u : Nat) (a : Int) : (jO n g).set u a = jO n (fun v => if v = u then a else g v) := by
 apply List.ext_getElem?
 intro i
 by_cases hi : i < n
 ·rw [List.getElem?_set, bK _ hi]
  by_cases q : u = i
  ·subst q; rw [if_pos rfl, if_pos (by rw [bp]; exact hi), bK _ hi, if_pos rfl]
  ·rw [if_neg q, bK _ hi, if_neg (by omega)]
 ·rw [List.getElem?_eq_none (by rw [List.length_set, bp]; omega), List.getElem?_eq_none (by rw [bp]; omega)]
def EY (G : Int) (f : List Int) (s w : List (List Int)) (o : List Int) (n j : Nat) : V := shr (jO n (NW G f s w o n j)) (ba n (NW G f s w o n j))
def EZ (G : Int) (f : List Int) (s w : List (List Int)) (o : List Int) (n j r v : Nat) : Int := ba r (fun q => NW G f s w o n j q * si s q v)
theorem Ey (n : Nat) : Zs (V.rep (n : Int) (.int 0)) (jO n fun _ => 0) := by
 unfold Zs V.rep jO
 simp [cf, List.map_const']
end
end X
namespace X
open Go Go.a9 Go.Sym
section
variable {G : Int} {f : List Int} {s w : List (List Int)} {o : List Int} {n k : Nat} {F S W O : V}
def more (o : List Int) (j : Nat) : List Int := o ++ List.replicate j (-1)
theorem wZ (o : List Int) (j : Nat) : (more o j).length = o.length + j := by simp [more]
theorem HV.more (h : HV G f s w o n k F S W O) {j : Nat} (hj : o.length + j <= 8) {O' : V} (hO : Zs O' (X.more o j)) : HV G f s w (X.more o j) n k F S W O' := by
 have l1 := h.so.l1
 refine ⟨h.H, ⟨by rw [wZ]; omega, by rw [wZ]; omega, fun x hx => ?_⟩, h.F, h.S, h.W, hO⟩
 unfold X.more at hx
 rcases List.mem_append.1 hx with q | q
 ·exact h.so.x x q
 ·have := (List.mem_replicate.1 q).2
  subst this
  have := h.H.k1
  omega
theorem CA (l : List Int) (d : Int) : (shr l d).len = l.length := by unfold shr; rw [gu]; simp
end
end X
namespace X
open Go Go.a9 Go.Sym
def jn (n : Nat) : Nat -> List (List Nat)
 | 0 => [[]]
 | m + 1 => (jn n m).flatMap fun p => (List.range n).map fun s => p ++ [s]
def IL (p : List Nat) : List Int := p.map Int.ofNat
theorem ki {n : Nat} : ∀ {m : Nat} {p : List Nat}, p ∈ jn n m -> p.length = m /\ ∀ x ∈ p, x < n
 | 0, p, h => by simp [jn] at h; subst h; simp
 | m + 1, p, h => by
  obtain ⟨q, hq, h⟩ := List.mem_flatMap.1 h
  obtain ⟨s, hs, rfl⟩ := List.mem_map.1 h
  obtain ⟨h1, h2⟩ := ki hq
  have hs := List.mem_range.1 hs
  refine ⟨by simp [h1], fun x hx => ?_⟩
  rcases List.mem_append.1 hx with a | a
  ·exact h2 x a
  ·simp at a; omega
theorem sX {n : Nat} : ∀ (l : List (List Nat)), (l.flatMap fun p => (List.range n).map fun s => p ++ [s]).length = l.length * n
 | [] => by simp
 | a :: l => by rw [List.flatMap_cons, List.length_append, sX l]; simp [Nat.add_mul, Nat.add_comm]
theorem eW (n : Nat) : ∀ m, (jn n m).length = n ^ m
 | 0 => rfl
 | m + 1 => by show (List.flatMap _ _).length = _; rw [sX, eW n m, Nat.pow_succ]
theorem C3 (p : List Nat) (s : Nat) : IL (p ++ [s]) = IL p ++ [(s : Int)] := by unfold IL; simp
section
variable {G : Int} {f : List Int} {s w : List (List Int)} {o : List Int} {n k : Nat} {F S W O : V}
theorem qj (h : HV G f s w o n k F S W O) {m : Nat} (hm8 : m <= 8) : Fn prog jB.f [hm G F S W, .int m] (.bool (decide (n ^ m <= 1024))) := by
 have m1 : (hm G F S W).get 1 = F := rfl
 obtain ⟨lf, _, _, _⟩ := h.lens
 have n1 := h.H.n1
 have n4 := h.H.n4
 have pw : ∀ i, i <= 8 -> n ^ i <= 65536 := fun i hi => Nat.le_trans (Nat.pow_le_pow_left n4 i) (Nat.le_trans (Nat.pow_le_pow_right (by omega) hi) (by decide))
 have loop : ∀ (t i : Nat) (i' a : Int), t + i = m -> i' = i -> a = ((n ^ i : Nat) : Int) -> Comes jB.K jB.f jB.s1 ⟨[a, i'], [], [hm G F S W, .int m]⟩ (.bool (decide (n ^ m <= 1024))) := by
  intro t
  induction t with
  | zero =>
   intro i i' a ht hi ha
   have : i = m := by omega
   subst hi ha this
   refine Comes.last aa jB.p2 [] ?_ ?_
   ·simp only [HM, FT, IB, ag, E.b, E.i, E.v, Env.ext, aO]; omega
   ·simp only [HM, FT, IB, ag, E.b, E.i, E.v, Env.ext, aO]
    by_cases q : n ^ i <= 1024
    ·rw [decide_eq_true q, ao.2 (by omega)]
    ·rw [decide_eq_false q, aE.2 (by omega)]
  | succ t ih =>
   intro i i' a ht hi ha
   subst hi ha
   have e : ((n ^ i : Nat) : Int) * (n : Int) = ((n ^ (i + 1) : Nat) : Int) := by rw [Nat.pow_succ]; simp
   have := pw (i + 1) (by omega)
   refine Comes.step aa jB.p1 [] ?_ ?_
   ·simp only [HM, FT, IB, ag, E.b, E.i, E.v, Env.ext, aO]; rw [m1, lf, e]; omega
   ·simp only [Sub.ev, E.v, E.i, Env.ext, aO]
    rw [m1, lf, e]
    exact ih (i + 1) ((i : Int) + 1) _ (by omega) (by omega) rfl
 exact Fn.of (C := jB.K) jB.b (Comes.step aa jB.p0 [] trivial (loop m 0 0 1 (by omega) rfl (by simp)))
theorem qp (h : HV G f s w o n k F S W O) {m : Nat} (hm8 : m <= 8) (hp : n ^ m <= 1024) : ∃ P, cT P ((jn n m).map IL) /\ Fn prog dx.f [hm G F S W, .int m] P := by
 have m1 : (hm G F S W).get 1 = F := rfl
 obtain ⟨lf, _, _, _⟩ := h.lens
 have n1 := h.H.n1
 have n4 := h.H.n4
 have pw : ∀ i, i <= m -> n ^ i <= 1024 := fun i hi => Nat.le_trans (Nat.pow_le_pow_right (by omega) hi) hp
 have loop : ∀ (q t : Nat) (t' : Int) (out : V), q + t = m -> t' = t -> cT out ((jn n t).map IL) -> ∃ P, cT P ((jn n m).map IL) /\ Comes dx.K dx.f dx.s1 ⟨[t'], [], [hm G F S W, .int m, out]⟩ P := by
  intro q
  induction q with
  | zero =>
   intro t t' out hq ht ho
   have : t = m := by omega
   subst ht this
   refine ⟨out, ho, Comes.last aa dx.p2 [] ?_ ?_⟩
   ·simp only [HM, FT, IB, ag, E.b, E.i, E.v, Env.ext, aO]; omega
   ·simp only [HM, FT, IB, ag, E.b, E.i, E.v, Env.ext, aO]
  | succ q ih =>
   intro t t' out hq ht ho
   subst ht
   have ol := ho.cX
   rw [List.length_map, eW] at ol
   have hpt := pw t (by omega)
   have mid : ∀ (a i : Nat) (i' : Int) (next : V), a + i = n ^ t -> i' = i -> cT next ((((jn n t).take i).flatMap fun p => (List.range n).map fun s => p ++ [s]).map IL) -> ∃ P, cT P ((jn n m).map IL) /\ Comes dx.K dx.f dx.s2 ⟨[i', (t : Int)], [], [hm G F S W, .int m, next, out]⟩ P := by
    intro a
    induction a with
    | zero =>
     intro i i' next ha hi hn
     subst hi
     rw [List.take_of_length_le (by rw [eW]; omega)] at hn
     obtain ⟨P, q1, q2⟩ := ih (t + 1) ((t : Int) + 1) next (by omega) (by omega) hn
     refine ⟨P, q1, Comes.step aa dx.p4 [] ?_ q2⟩
     simp only [HM, FT, IB, ag, E.b, E.i, E.v, Env.ext, aO]; rw [ol]; omega
    | succ a iha =>
     intro i i' next ha hi hn
     subst hi
     obtain ⟨p, hpi⟩ : ∃ p, (jn n t)[i]? = some p := ⟨_, List.getElem?_eq_getElem (by rw [eW]; omega)⟩
     have hU := ho.row i (IL p) (by rw [List.getElem?_map, hpi]; rfl)
     obtain ⟨pl, px⟩ := ki (List.mem_of_getElem? hpi)
     have rl := hU.len
     have rcl := hU.copy.len
     have lIL : (IL p).length = t := by unfold IL; simp [pl]
     rw [lIL] at rl rcl
     have inner : ∀ (b u : Nat) (u' : Int) (next : V), b + u = n -> u' = u -> cT next ((((jn n t).take i).flatMap fun p => (List.range n).map fun s => p ++ [s]).map IL ++ ((List.range u).map fun s => p ++ [s]).map IL) -> ∃ P, cT P ((jn n m).map IL) /\ Comes dx.K dx.f dx.s3 ⟨[u', (i : Int), (t : Int)], [], [hm G F S W, .int m, next, out]⟩ P := by
      intro b
      induction b with
      | zero =>
       intro u u' next hb hu hn
       have : u = n := by omega
       subst hu this
       obtain ⟨P, q1, q2⟩ := iha (i + 1) ((i : Int) + 1) next (by omega) (by omega) (by
        rw [List.take_add_one, hpi, List.flatMap_append, List.map_append]
        simpa using hn)
       refine ⟨P, q1, Comes.step aa dx.p6 [] ?_ q2⟩
       simp only [HM, FT, IB, ag, E.b, E.i, E.v, Env.ext, aO]; rw [m1, lf]; omega
      | succ b ihb =>
       intro u u' next hb hu hn
       subst hu
       have nl := hn.cX
       rw [List.length_append, List.length_map, sX, List.length_take, eW, List.length_map, List.length_map, List.length_range] at nl
       have hmi : min i (n ^ t) * n <= 1024 * 4 := Nat.mul_le_mul (by omega) (by omega)
       have hn2 := hn.snoc (hU.copy.snoc (u : Int))
       rw [<- C3, List.append_assoc, show ((List.range u).map fun s => p ++ [s]).map IL ++ [IL (p ++ [u])] = ((List.range (u + 1)).map fun s => p ++ [s]).map IL by rw [List.range_succ]; simp] at hn2
       obtain ⟨P, q1, q2⟩ := ihb (u + 1) ((u : Int) + 1) _ (by omega) (by omega) hn2
       refine ⟨P, q1, Comes.step aa dx.p5 [] ?_ q2⟩
       simp only [HM, FT, IB, ag, E.b, E.i, E.v, Env.ext, aO]; rw [m1, lf, ol, rl, rcl, nl]; omega
     obtain ⟨P, q1, q2⟩ := inner n 0 0 next (by omega) rfl (by simpa using hn)
     refine ⟨P, q1, Comes.step aa dx.p3 [] ?_ q2⟩
     simp only [HM, FT, IB, ag, E.b, E.i, E.v, Env.ext, aO]; rw [ol]; omega
   obtain ⟨P, q1, q2⟩ := mid (n ^ t) 0 0 .nil (by omega) rfl (by simpa using jh)
   refine ⟨P, q1, Comes.step aa dx.p1 [] ?_ q2⟩
   simp only [HM, FT, IB, ag, E.b, E.i, E.v, Env.ext, aO]; omega
 obtain ⟨P, q1, q2⟩ := loop m 0 0 (.list [.nil]) (by omega) rfl (Es (F := .nil) (f := []) rfl)
 exact ⟨P, q1, Fn.of (C := dx.K) dx.b (Comes.step aa dx.p0 [] trivial q2)⟩
structure dL (T n : Nat) (g : Nat -> Nat -> Int) (x : V) : Prop where
 len : x.bx.length = T
 row : ∀ j, j < T -> Zs (x.get (j : Int)) (jO n (g j))
theorem dL.cX {T n : Nat} {g : Nat -> Nat -> Int} {x : V} (h : dL T n g x) : x.len = (T : Int) := by simp [V.len, h.len]
theorem dL.rl {T n : Nat} {g : Nat -> Nat -> Int} {x : V} (h : dL T n g x) {j : Nat} (hj : j < T) : (x.get (j : Int)).len = (n : Int) := by rw [(h.row j hj).len, bp]
theorem dL.at {T n : Nat} {g : Nat -> Nat -> Int} {x : V} (h : dL T n g x) {j v : Nat} (hj : j < T) (hv : v < n) : ((x.get (j : Int)).get (v : Int)).ab = g j v := (h.row j hj).get (bK _ hv)
theorem dL.put {T n : Nat} {g : Nat -> Nat -> Int} {x : V} (h : dL T n g x) {t v : Nat} (ht : t < T) (a : Int) : dL T n (fun j u => if j = t /\ u = v then a else g j u) (x.set (t : Int) ((x.get (t : Int)).set (v : Int) (.int a))) := by
 have hl : t < x.bx.length := by rw [h.len]; exact ht
 refine ⟨by simp [V.set, cf, h.len], fun j hj => ?_⟩
 rw [nk hl]
 by_cases q : j = t
 ·rw [if_pos q]
  have := (h.row t ht).set v a
  rw [Bs] at this
  rw [q]
  rw [nz (g' := fun u => if u = v then a else g t u) fun u hu => by simp]
  exact this
 ·rw [if_neg q, nz (g' := g j) fun u hu => by rw [if_neg (fun c => q c.1)]]
  exact h.row j hj
theorem dL.congr {T n : Nat} {g g' : Nat -> Nat -> Int} {x : V} (h : dL T n g x) (e : ∀ j u, j < T -> u < n -> g j u = g' j u) : dL T n g' x :=
 ⟨h.len, fun j hj => by rw [nz fun u hu => (e j u hj hu).symm]; exact h.row j hj⟩
theorem dL.Ah {T n : Nat} {g : Nat -> Nat -> Int} {x : V} (h : dL T n g x) : cT x ((List.range T).map fun t => jO n (g t)) := by
 refine ⟨by simp [h.len], fun j r hj => ?_⟩
 have hlt : j < T := by simpa using (List.getElem?_eq_some_iff.1 hj).1
 rw [List.getElem?_map, List.getElem?_range hlt] at hj
 simp at hj; subst hj
 exact h.row j hlt
theorem qi (h : HV G f s w o n k F S W O) {m : Nat} (hm8 : m <= 8) : ∃ X, dL m n (fun _ _ => 0) X /\ Cq prog jA.f [hm G F S W, .int m] X := by
 have m1 : (hm G F S W).get 1 = F := rfl
 obtain ⟨lf, _, _, _⟩ := h.lens
 have n4 := h.H.n4
 have loop : ∀ (q t : Nat) (t' : Int) (out : V), q + t = m -> t' = t -> dL t n (fun _ _ => 0) out -> ∃ X, dL m n (fun _ _ => 0) X /\ fI jA.K jA.f jA.s1 ⟨[t'], [], [hm G F S W, .int m, out]⟩ X := by
  intro q
  induction q with
  | zero =>
   intro t t' out hq ht ho
   have : t = m := by omega
   subst ht this
   refine ⟨out, ho, fI.last aa jA.p2 [] ?_ ?_⟩
   ·simp only [HM, FT, IB, ag, E.b, E.i, E.v, Env.ext, aO]; omega
   ·simp only [HM, FT, IB, ag, E.b, E.i, E.v, Env.ext, aO]
  | succ q ih =>
   intro t t' out hq ht ho
   subst ht
   have ol := ho.cX
   have hn : dL (t + 1) n (fun _ _ => 0) (out.snoc (V.rep (n : Int) (.int 0))) := by
    refine ⟨by simp [V.snoc, cf, ho.len], fun j hj => ?_⟩
    by_cases q1 : j < t
    ·have e : (out.snoc (V.rep (n : Int) (.int 0))).get (j : Int) = out.get (j : Int) := by
      simp [V.snoc, V.get, cf, List.getElem?_append_left (show j < out.bx.length by rw [ho.len]; exact q1)]
     rw [e]; exact ho.row j q1
    ·have : j = t := by omega
     subst this
     have e : (out.snoc (V.rep (n : Int) (.int 0))).get (j : Int) = V.rep (n : Int) (.int 0) := by
      simp [V.snoc, V.get, cf, List.getElem?_append_right (show out.bx.length <= j by rw [ho.len]; omega), ho.len]
     rw [e]; exact Ey n
   obtain ⟨X, q1, q2⟩ := ih (t + 1) ((t : Int) + 1) _ (by omega) (by omega) hn
   refine ⟨X, q1, fI.step aa jA.p1 [] ?_ ?_⟩
   ·simp only [HM, FT, IB, ag, E.b, E.i, E.v, Env.ext, aO]; rw [m1, lf, ol]; omega
   ·simp only [Sub.ev, E.v, E.i, Env.ext, aO]
    rw [m1, lf]; exact q2
 obtain ⟨X, q1, q2⟩ := loop m 0 0 .nil (by omega) rfl ⟨rfl, fun j hj => by omega⟩
 exact ⟨X, q1, Cq.of (C := jA.K) jA.b (fI.step aa jA.p0 [] trivial q2)⟩
end
end X
namespace X
open Go Go.a9 Go.Sym
def cN {α : Type} (l : List α) (g : α -> Int) : Int := (l.map g).sum
theorem xg {α : Type} (g : α -> Int) : cN [] g = 0 := rfl
theorem dJ {α : Type} (a : α) (l : List α) (g : α -> Int) : cN (a :: l) g = g a + cN l g := by simp [cN]
theorem lB {α : Type} (a b : List α) (g : α -> Int) : cN (a ++ b) g = cN a g + cN b g := by simp [cN]
theorem yK {α : Type} {l : List α} {g h : α -> Int} (e : ∀ a ∈ l, g a = h a) : cN l g = cN l h := by
 unfold cN; rw [List.map_congr_left e]
theorem lA {α : Type} {l : List α} {g : α -> Int} (h : ∀ a ∈ l, 0 <= g a) : 0 <= cN l g := by
 induction l with
 | nil => simp [cN]
 | cons a l ih => rw [dJ]; have := ih fun x hx => h x (by simp [hx]); have := h a (by simp); omega
theorem mA {α β : Type} (F : α -> List β) (g : β -> Int) : ∀ l : List α, cN (l.flatMap F) g = cN l (fun a => cN (F a) g)
 | [] => rfl
 | a :: l => by rw [List.flatMap_cons, lB, dJ, mA F g l]
theorem sO {α β : Type} (F : α -> β) (g : β -> Int) (l : List α) : cN (l.map F) g = cN l (fun a => g (F a)) := by
 unfold cN; rw [List.map_map]; rfl
theorem nE (n : Nat) (g : Nat -> Int) : cN (List.range n) g = ba n g := rfl
theorem sN {α : Type} (g : α -> Int) (c : Int) : ∀ l : List α, cN l (fun a => g a * c) = cN l g * c
 | [] => by simp [cN]
 | a :: l => by rw [dJ, dJ, sN g c l, Int.add_mul]
theorem uE {α : Type} (n : Nat) (h : α -> Nat -> Int) : ∀ l : List α, cN l (fun a => ba n (h a)) = ba n (fun r => cN l (fun a => h a r))
 | [] => by
  show (0 : Int) = ba n fun _ => 0
  have := eJ n (fun _ => 0) 0
  simpa using this.symm
 | a :: l => by
  rw [dJ, uE n h l, <- wA]
  exact b6 fun r hr => by rw [dJ]
theorem uD {α : Type} {l : List α} {g : α -> Int} {i : Nat} {a : α} (h : l[i]? = some a) : cN (l.take (i + 1)) g = cN (l.take i) g + g a := by
 rw [List.take_add_one, h, lB]; simp [cN]
theorem ou {α : Type} {l : List α} {g : α -> Int} (h : ∀ a ∈ l, 0 <= g a) (i : Nat) : cN (l.take i) g <= cN l g := by
 have e : cN l g = cN (l.take i) g + cN (l.drop i) g := by rw [<- lB, List.take_append_drop]
 have := lA (l := l.drop i) (g := g) fun a ha => h a (List.mem_of_mem_drop ha)
 omega
theorem oV {n v : Nat} (g : Nat -> Int) (hv : v < n) : ba n (fun s => if s = v then g s else 0) = g v := by
 have z : ∀ m, m <= v -> ba m (fun s => if s = v then g s else 0) = 0 := by
  intro m hm
  induction m with
  | zero => rfl
  | succ m ih => rw [aX, ih (by omega), if_neg (by omega)]; rfl
 have z2 : ∀ d, ba (v + 1 + d) (fun s => if s = v then g s else 0) = g v := by
  intro d
  induction d with
  | zero => rw [Nat.add_zero, aX, z v (Nat.le_refl _), if_pos rfl]; omega
  | succ d ih => rw [show v + 1 + (d + 1) = v + 1 + d + 1 by omega, aX, ih, if_neg (by omega)]; omega
 have := z2 (n - (v + 1))
 rwa [show v + 1 + (n - (v + 1)) = n by omega] at this
section
variable (G : Int) (f : List Int) (s w : List (List Int)) (o : List Int)
def WL (p : List Nat) : Nat -> Int
 | 0 => 1
 | t + 1 => (if t = 0 then f.getD (p.getD 0 0) 0 else WL p t * si s (p.getD (t - 1) 0) (p.getD t 0)) * sh G w o t (p.getD t 0)
end
section
variable {G : Int} {f : List Int} {s w : List (List Int)} {o : List Int} {n k : Nat} {F S W O : V}
theorem oA {q r : List Nat} {i : Nat} (h : i < q.length) : (q ++ r).getD i 0 = q.getD i 0 := by
 rw [List.getD_eq_getElem?_getD, List.getD_eq_getElem?_getD, List.getElem?_append_left h]
theorem AN {q : List Nat} {u : Nat} : (q ++ [u]).getD q.length 0 = u := by
 rw [List.getD_eq_getElem?_getD, List.getElem?_append_right (Nat.le_refl _), Nat.sub_self]; rfl
theorem Cl {q r : List Nat} : ∀ {j : Nat}, j <= q.length -> WL G f s w o (q ++ r) j = WL G f s w o q j
 | 0, _ => rfl
 | j + 1, h => by
  unfold WL
  rw [oA (show j < q.length by omega), Cl (j := j) (by omega)]
  by_cases hj : j = 0
  ·rw [if_pos hj, if_pos hj, oA (by omega)]
  ·rw [if_neg hj, if_neg hj, oA (by omega)]
theorem jV {n : Nat} {p : List Nat} (h : ∀ x ∈ p, x < n) {i : Nat} (hi : i < p.length) : p.getD i 0 < n := by
 have := h p[i] (List.getElem_mem hi)
 simpa [hi] using this
theorem g8.DT (H : g8 G f s w n k) {p : List Nat} (hx : ∀ x ∈ p, x < n) : ∀ {t : Nat}, t <= p.length -> 0 <= WL G f s w o p t /\ WL G f s w o p t <= G ^ (2 * t)
 | 0, _ => by simp [WL]
 | t + 1, ht => by
  have g1 := H.g1
  have pt := jV hx (show t < p.length by omega)
  obtain ⟨s1, s2⟩ := H.sh (o := o) t pt
  have e : G ^ (2 * (t + 1)) = G ^ (2 * t + 1) * G := by rw [show 2 * (t + 1) = 2 * t + 1 + 1 by omega, Int.pow_succ]
  obtain ⟨i1, i2⟩ := H.DT hx (t := t) (by omega)
  have g0 : 0 <= G ^ (2 * t + 1) := by have := (sx g1 H.g2 (2 * t + 1)).2; omega
  have fin : ∀ {y : Int}, 0 <= y -> y <= G ^ (2 * t + 1) -> 0 <= y * X.sh G w o t (p.getD t 0) /\ y * X.sh G w o t (p.getD t 0) <= G ^ (2 * (t + 1)) := by
   intro y y1 y2
   rw [e]
   exact ⟨Int.mul_nonneg y1 s1, Int.mul_le_mul y2 s2 s1 g0⟩
  unfold WL
  by_cases h0 : t = 0
  ·rw [if_pos h0]
   subst h0
   have := H.fi (p.getD 0 0)
   exact fin this.1 (by rw [show 2 * 0 + 1 = 1 from rfl, Int.pow_succ, Int.pow_zero, Int.one_mul]; exact this.2)
  ·rw [if_neg h0]
   have pt1 := jV hx (show t - 1 < p.length by omega)
   obtain ⟨a1, a2⟩ := H.si pt1 (p.getD t 0)
   refine fin (Int.mul_nonneg i1 a1) ?_
   rw [Int.pow_succ]
   exact Int.mul_le_mul i2 a2 a1 (by have := (sx g1 H.g2 (2 * t)).2; omega)
def yc (G : Int) (f : List Int) (s w : List (List Int)) (o : List Int) (l : List (List Nat)) (t v : Nat) : Int := cN l fun p => if p.getD t 0 = v then WL G f s w o p (t + 1) else 0
theorem vZ : ∀ (t v : Nat), v < n -> yc G f s w o (jn n (t + 1)) t v = FW G f s w o n t v
 | 0, v, hv => by
  unfold yc jn
  rw [mA]
  show cN [[]] _ = _
  rw [dJ, xg, sO, nE, Int.add_zero]
  have : ba n (fun u => if ([] ++ [u] : List Nat).getD 0 0 = v then WL G f s w o ([] ++ [u]) (0 + 1) else 0) = ba n (fun u => if u = v then f.getD u 0 * sh G w o 0 u else 0) := b6 fun u hu => rfl
  rw [this, oV _ hv]
  rfl
 | t + 1, v, hv => by
  unfold yc
  rw [show jn n (t + 1 + 1) = (jn n (t + 1)).flatMap fun p => (List.range n).map fun s => p ++ [s] from rfl, mA]
  have e1 : ∀ q ∈ jn n (t + 1), cN ((List.range n).map fun s => q ++ [s]) (fun p => if p.getD (t + 1) 0 = v then WL G f s w o p (t + 1 + 1) else 0) = ba n (fun r => (if q.getD t 0 = r then WL G f s w o q (t + 1) else 0) * si s r v) * sh G w o (t + 1) v := by
   intro q hq
   obtain ⟨ql, qx⟩ := ki hq
   rw [sO, nE]
   have a : ba n (fun u => if (q ++ [u]).getD (t + 1) 0 = v then WL G f s w o (q ++ [u]) (t + 1 + 1) else 0) = ba n (fun u => if u = v then WL G f s w o q (t + 1) * si s (q.getD t 0) u * sh G w o (t + 1) u else 0) := by
    refine b6 fun u hu => ?_
    have hl : (q ++ [u]).getD (t + 1) 0 = u := by rw [<- ql]; exact AN
    rw [hl]
    have : WL G f s w o (q ++ [u]) (t + 1 + 1) = WL G f s w o q (t + 1) * si s (q.getD t 0) u * sh G w o (t + 1) u := by
     show (if t + 1 = 0 then _ else WL G f s w o (q ++ [u]) (t + 1) * si s ((q ++ [u]).getD (t + 1 - 1) 0) ((q ++ [u]).getD (t + 1) 0)) * sh G w o (t + 1) ((q ++ [u]).getD (t + 1) 0) = _
     rw [if_neg (by omega), hl, Cl (by omega), show t + 1 - 1 = t by omega, oA (by omega)]
    rw [this]
   rw [a, oV _ hv]
   congr 1
   have qt := jV qx (show t < q.length by omega)
   have b : ba n (fun r => (if q.getD t 0 = r then WL G f s w o q (t + 1) else 0) * si s r v) = ba n (fun r => if r = q.getD t 0 then WL G f s w o q (t + 1) * si s r v else 0) := by
    refine b6 fun r hr => ?_
    by_cases c : r = q.getD t 0
    ·rw [if_pos c, if_pos c.symm]
    ·rw [if_neg c, if_neg (fun d => c d.symm)]; simp
   rw [b, oV _ qt]
  rw [yK e1, sN, uE]
  show _ = ba n (fun u => FW G f s w o n t u * si s u v) * sh G w o (t + 1) v
  congr 1
  refine b6 fun r hr => ?_
  rw [sN, <- vZ t r hr]
  rfl
theorem vm (h : HV G f s w o n k F S W O) {p : List Nat} (hx : ∀ x ∈ p, x < n) {t : Nat} (ht : t < o.length) (hl : p.length = t + 1) {P O' : V} (hP : Zs P (IL p)) (hO : Zs O' (o.take (t + 1))) : Fn prog fx.f [hm G F S W, O', P] (.int (WL G f s w o p (t + 1))) := by
 have m1 : (hm G F S W).get 1 = F := rfl
 have m2 : (hm G F S W).get 2 = S := rfl
 obtain ⟨lf, ls, lw, lo⟩ := h.lens
 have h8 := h.so.l8
 have n4 := h.H.n4
 have pl := hP.len
 rw [show (IL p).length = t + 1 by unfold IL; simp [hl]] at pl
 have ol := hO.len
 rw [List.length_take, Nat.min_eq_left (by omega)] at ol
 have pa : ∀ i, i <= t -> (P.get (i : Int)).ab = (p.getD i 0 : Nat) := by
  intro i hi
  have : (IL p)[i]? = some ((p.getD i 0 : Nat) : Int) := by unfold IL; rw [List.getElem?_map, List.getElem?_eq_getElem (by omega)]; simp [show i < p.length by omega]
  exact hP.get this
 have oa : ∀ i, i <= t -> (O'.get (i : Int)).ab = o.getD i 0 := by
  intro i hi
  have : (o.take (t + 1))[i]? = some (o.getD i 0) := by rw [List.getElem?_take, if_pos (by omega), List.getElem?_eq_getElem (by omega)]; simp [show i < o.length by omega]
  exact hO.get this
 have loop : ∀ (q i : Nat) (i' a : Int), q + i = t + 1 -> i' = i -> a = WL G f s w o p i -> Comes fx.K fx.f fx.s1 ⟨[a, i'], [], [hm G F S W, O', P]⟩ (.int (WL G f s w o p (t + 1))) := by
  intro q
  induction q with
  | zero =>
   intro i i' a hq hi ha
   have : i = t + 1 := by omega
   subst hi ha this
   refine Comes.last aa fx.p3 [] ?_ ?_
   ·simp only [HM, FT, IB, ag, E.b, E.i, E.v, Env.ext, aO]; rw [pl]; omega
   ·simp only [HM, FT, IB, ag, E.b, E.i, E.v, Env.ext, aO]
  | succ q ih =>
   intro i i' a hq hi ha
   subst hi ha
   have hit : i <= t := by omega
   have px := jV hx (show i < p.length by omega)
   have sp := jm h (t := i) (by omega) px
   have nx := ih (i + 1) ((i : Int) + 1) _ (by omega) (by omega) rfl
   obtain ⟨w1, w2⟩ := h.H.DT (o := o) hx (t := i) (by omega)
   obtain ⟨u1, u2⟩ := h.H.DT (o := o) hx (t := i + 1) (by omega)
   have u3 := n8 h.H.g1 h.H.g2 (m := 2 * (i + 1)) (by omega)
   by_cases h0 : i = 0
   ·subst h0
    have fi := h.fi px
    have p0 := pa 0 (by omega)
    have o0 := oa 0 (by omega)
    have e : f.getD (p.getD 0 0) 0 * sh G w o 0 (p.getD 0 0) = WL G f s w o p (0 + 1) := rfl
    have p0' : (P.get 0).ab = (p.getD 0 0 : Nat) := p0
    refine Comes.step aa fx.p1 [.int (sh G w o 0 (p.getD 0 0))] ?_ ?_
    ·simp only [HM, FT, IB, ag, E.b, E.i, E.v, Env.ext, aO]; rw [m1, pl, ol, lf, p0', p0, o0, fi, e]
     exact ⟨by omega, by omega, by omega, by omega, by omega, by omega, sp, by omega, by omega⟩
    ·simp only [Sub.ev, E.v, E.i, Env.ext, aO]
     rw [m1, p0', fi, e]
     exact nx
   ·have px1 := jV hx (show i - 1 < p.length by omega)
    have ei : (i : Int) - 1 = ((i - 1 : Nat) : Int) := by omega
    have pi := pa i hit
    have pi1 := pa (i - 1) (by omega)
    have oi := oa i hit
    obtain ⟨s1, s2⟩ := h.si (u := p.getD (i - 1) 0) (v := p.getD i 0) px1 px
    have e : WL G f s w o p i * si s (p.getD (i - 1) 0) (p.getD i 0) * sh G w o i (p.getD i 0) = WL G f s w o p (i + 1) := by
     show _ = (if i = 0 then _ else WL G f s w o p i * si s (p.getD (i - 1) 0) (p.getD i 0)) * _
     rw [if_neg h0]
    obtain ⟨a1, a2⟩ := h.H.si px1 (p.getD i 0)
    have m1' := Int.mul_nonneg w1 a1
    have m2' : WL G f s w o p i * si s (p.getD (i - 1) 0) (p.getD i 0) <= G ^ (2 * i) * G := Int.mul_le_mul w2 a2 a1 (by have := (sx h.H.g1 h.H.g2 (2 * i)).2; omega)
    have m3' := n8 h.H.g1 h.H.g2 (m := 2 * i + 1) (by omega)
    rw [Int.pow_succ] at m3'
    refine Comes.step aa fx.p2 [.int (sh G w o i (p.getD i 0))] ?_ ?_
    ·simp only [HM, FT, IB, ag, E.b, E.i, E.v, Env.ext, aO]; rw [m2, pl, ol, ei, pi1, pi, oi, ls, s2, s1, e]
     exact ⟨by omega, by omega, by omega, by omega, by omega, by omega, by omega, by omega, by omega, by omega, sp, by omega, by omega⟩
    ·simp only [Sub.ev, E.v, E.i, Env.ext, aO]
     rw [m2, ei, pi1, pi, s1, e]
     exact nx
 exact Fn.of (C := fx.K) fx.b (Comes.step aa fx.p0 [] trivial (loop (t + 1) 0 0 1 (by omega) rfl rfl))
end
end X
namespace X
open Go Go.a9 Go.Sym
section
variable {G : Int} {f : List Int} {s w : List (List Int)} {o : List Int} {n k : Nat} {F S W O : V}
def gT (G : Int) (f : List Int) (s w : List (List Int)) (o : List Int) (n t : Nat) (row : Nat -> Int) (j v : Nat) : Int := if j < t then FW G f s w o n j v else if j = t then row v else 0
theorem zZ {t j v : Nat} : gT G f s w o n t (FW G f s w o n t) j v = gT G f s w o n (t + 1) (fun _ => 0) j v := by
 unfold gT
 by_cases h1 : j < t
 ·rw [if_pos h1, if_pos (by omega)]
 ·by_cases h2 : j = t
  ·rw [if_neg h1, if_pos h2, if_pos (by omega), h2]
  ·rw [if_neg h1, if_neg h2, if_neg (by omega)]; split <;> rfl
theorem BQ {t v : Nat} (row : Nat -> Int) (a : Int) (j u : Nat) : (if j = t /\ u = v then a else gT G f s w o n t row j u) = gT G f s w o n t (fun x => if x = v then a else row x) j u := by
 unfold gT
 by_cases h1 : j < t
 ·rw [if_neg (by omega), if_pos h1, if_pos h1]
 ·by_cases h2 : j = t
  ·rw [if_neg h1, if_neg h1, if_pos h2, if_pos h2]
   by_cases h3 : u = v
   ·simp only [if_pos (show j = t /\ u = v from ⟨h2, h3⟩), if_pos h3]
   ·simp only [if_neg (show ¬ (j = t /\ u = v) from fun c => h3 c.2), if_neg h3]
  ·rw [if_neg (fun c => h2 c.1), if_neg h1, if_neg h2, if_neg h1, if_neg h2]
theorem Di {t v : Nat} (row : Nat -> Int) : gT G f s w o n t row t v = row v := by unfold gT; rw [if_neg (by omega), if_pos rfl]
theorem Dh {t j v : Nat} (row : Nat -> Int) (h : j < t) : gT G f s w o n t row j v = FW G f s w o n j v := by unfold gT; rw [if_pos h]
theorem tG (h : HV G f s w o n k F S W O) {t : Nat} (ht : t < o.length) {P : V} (hP : cT P ((jn n (t + 1)).map IL)) {i : Nat} {p : List Nat} (hi : (jn n (t + 1))[i]? = some p) (hlen : i < 1024) {Q : V -> Prop} {v2 v3 v4 out : V}
  (ho : dL o.length n (gT G f s w o n t (yc G f s w o ((jn n (t + 1)).take i) t)) out)
  (nx : ∀ out', dL o.length n (gT G f s w o n t (yc G f s w o ((jn n (t + 1)).take (i + 1)) t)) out' -> ∃ X, Q X /\ Comes aZ.K aZ.f aZ.s2 ⟨[(i : Int) + 1, (t : Int)], [], [hm G F S W, O, v2, v3, v4, out', P]⟩ X) :
  ∃ X, Q X /\ Comes aZ.K aZ.f aZ.s2 ⟨[(i : Int), (t : Int)], [], [hm G F S W, O, v2, v3, v4, out, P]⟩ X := by
 obtain ⟨lf, ls, lw, lo⟩ := h.lens
 have h8 := h.so.l8
 have n4 := h.H.n4
 obtain ⟨pl, px⟩ := ki (List.mem_of_getElem? hi)
 have hil := (List.getElem?_eq_some_iff.1 hi).1
 have row := hP.row i (IL p) (by rw [List.getElem?_map, hi]; rfl)
 have rl := row.len
 rw [show (IL p).length = t + 1 by unfold IL; simp [pl]] at rl
 have pt := jV px (show t < p.length by omega)
 have pa : ((P.get (i : Int)).get (t : Int)).ab = (p.getD t 0 : Nat) := by
  have : (IL p)[t]? = some ((p.getD t 0 : Nat) : Int) := by unfold IL; rw [List.getElem?_map, List.getElem?_eq_getElem (by omega)]; simp [show t < p.length by omega]
  exact row.get this
 have Pl := hP.cX
 rw [List.length_map] at Pl
 have ol := ho.cX
 have rol := ho.rl ht
 have old := ho.at ht pt
 rw [Di] at old
 have hO := h.O.sub ((t : Int) + 1)
 rw [show ((t : Int) + 1).toNat = t + 1 by omega] at hO
 have wsp := vm h px ht pl row hO
 obtain ⟨w1, w2⟩ := h.H.DT (o := o) px (t := t + 1) (by omega)
 -- bounds of the sums
 have nn : ∀ v, ∀ q ∈ jn n (t + 1), 0 <= (if q.getD t 0 = v then WL G f s w o q (t + 1) else 0) := by
  intro v q hq
  obtain ⟨ql, qx⟩ := ki hq
  split
  ·exact (h.H.DT (o := o) qx (t := t + 1) (by omega)).1
  ·exact Int.le_refl _
 have stepv : ∀ v, yc G f s w o ((jn n (t + 1)).take (i + 1)) t v = yc G f s w o ((jn n (t + 1)).take i) t v + (if p.getD t 0 = v then WL G f s w o p (t + 1) else 0) := fun v => uD hi
 have le1 : yc G f s w o ((jn n (t + 1)).take (i + 1)) t (p.getD t 0) <= 184884258895036416 := by
  have a : yc G f s w o ((jn n (t + 1)).take (i + 1)) t (p.getD t 0) <= yc G f s w o (jn n (t + 1)) t (p.getD t 0) := ou (nn _) _
  rw [vZ _ _ pt] at a
  have b := h.H.BU (o := o) (t := t) (by omega) pt
  omega
 have ge0 : 0 <= yc G f s w o ((jn n (t + 1)).take i) t (p.getD t 0) := lA fun q hq => nn _ q (List.mem_of_mem_take hq)
 have e := stepv (p.getD t 0)
 rw [if_pos rfl] at e
 have put := ho.put (v := p.getD t 0) ht (yc G f s w o ((jn n (t + 1)).take (i + 1)) t (p.getD t 0))
 have put2 : dL o.length n (gT G f s w o n t (yc G f s w o ((jn n (t + 1)).take (i + 1)) t)) (out.set (t : Int) ((out.get (t : Int)).set ((p.getD t 0 : Nat) : Int) (.int (yc G f s w o ((jn n (t + 1)).take (i + 1)) t (p.getD t 0))))) := by
  refine put.congr fun j u hj hu => ?_
  rw [BQ]
  unfold gT
  by_cases h1 : j < t
  ·rw [if_pos h1, if_pos h1]
  ·by_cases h2 : j = t
   ·rw [if_neg h1, if_pos h2, if_neg h1, if_pos h2]
    by_cases h3 : u = p.getD t 0
    ·subst h3; exact if_pos rfl
    ·simp only [if_neg h3]; rw [stepv u, if_neg (fun c => h3 c.symm)]; omega
   ·rw [if_neg h1, if_neg h2, if_neg h1, if_neg h2]
 obtain ⟨X, qX, k1⟩ := nx _ put2
 refine ⟨X, qX, Comes.step aa aZ.p4 [.int (WL G f s w o p (t + 1))] ?_ ?_⟩
 ·simp only [HM, FT, IB, ag, E.b, E.i, E.v, Env.ext, aO]; rw [Pl, rl, ol, pa, rol, lo, old, <- e]
  exact ⟨by omega, by omega, by omega, by omega, by omega, by omega, by omega, by omega, by omega, by omega, by omega, by omega, by omega, by omega, wsp, by omega, by omega, by omega, by omega, by omega, by omega, by omega⟩
 ·simp only [Sub.ev, E.v, E.i, Env.ext, aO]
  rw [pa, old, <- e]
  exact k1
end
end X
namespace X
open Go Go.a9 Go.Sym
section
variable {G : Int} {f : List Int} {s w : List (List Int)} {o : List Int} {n k : Nat} {F S W O : V}
def g9 (g : Nat -> Int) (v : Nat) (part : Int) (x : Nat) : Int := if x < v then g x else if x = v then part else 0
theorem vj (g : Nat -> Int) (v : Nat) (part : Int) : g9 g v part v = part := by unfold g9; rw [if_neg (by omega), if_pos rfl]
theorem sg (g : Nat -> Int) (v : Nat) (a b : Int) (x : Nat) : (if x = v then b else g9 g v a x) = g9 g v b x := by
 unfold g9
 by_cases h : x = v
 ·rw [if_pos h, if_neg (by omega), if_pos h]
 ·rw [if_neg h, if_neg h, if_neg h]
theorem pj (g : Nat -> Int) (v x : Nat) : g9 g v (g v) x = g9 g (v + 1) 0 x := by
 unfold g9
 by_cases h : x < v
 ·rw [if_pos h, if_pos (by omega)]
 ·by_cases h2 : x = v
  ·rw [if_neg h, if_pos h2, if_pos (by omega), h2]
  ·rw [if_neg h, if_neg h2, if_neg (by omega)]; split <;> rfl
theorem pF {t : Nat} {a b : Nat -> Int} (e : ∀ v, v < n -> a v = b v) (j u : Nat) (hu : u < n) : gT G f s w o n t a j u = gT G f s w o n t b j u := by
 unfold gT; split
 ·rfl
 ·split
  ·exact e u hu
  ·rfl
theorem sn (h : HV G f s w o n k F S W O) {t v : Nat} (ht : t < o.length) (ht1 : 1 <= t) (hv : v < n) {Q : V -> Prop} {v2 v3 : V}
  (nx : ∀ out', dL o.length n (gT G f s w o n t (g9 (FW G f s w o n t) (v + 1) 0)) out' -> ∃ X, Q X /\ Comes aZ.K aZ.f aZ.s3 ⟨[(t : Int), (v : Int) + 1], [], [hm G F S W, O, v2, v3, out']⟩ X) :
  ∀ (q u : Nat) (u' : Int) (out : V), q + u = n -> u' = u -> dL o.length n (gT G f s w o n t (g9 (FW G f s w o n t) v (ba u (fun u => FW G f s w o n (t - 1) u * si s u v * sh G w o t v)))) out ->
   ∃ X, Q X /\ Comes aZ.K aZ.f aZ.s4 ⟨[u', (t : Int), (v : Int)], [], [hm G F S W, O, v2, v3, out]⟩ X := by
 have m1 : (hm G F S W).get 1 = F := rfl
 have m2 : (hm G F S W).get 2 = S := rfl
 obtain ⟨lf, ls, lw, lo⟩ := h.lens
 have h8 := h.so.l8
 have n4 := h.H.n4
 have e1 : ba n (fun u => FW G f s w o n (t - 1) u * si s u v * sh G w o t v) = FW G f s w o n t v := by
  rw [eJ]
  conv => rhs; rw [show t = (t - 1) + 1 by omega]
  show _ = ba n (fun u => FW G f s w o n (t - 1) u * si s u v) * sh G w o (t - 1 + 1) v
  rw [show t - 1 + 1 = t by omega]
 have nn : ∀ u, u < n -> 0 <= FW G f s w o n (t - 1) u * si s u v * sh G w o t v := fun u hu => Int.mul_nonneg (Int.mul_nonneg (h.H.bW _ u hu) (h.H.si hu v).1) (h.H.sh _ hv).1
 have fle := h.H.BU (o := o) (t := t) (by omega) hv
 have pre := h.H.BS (o := o) (t := t - 1) (v := v) (by omega) hv
 have nnp : ∀ u, u < n -> 0 <= FW G f s w o n (t - 1) u * si s u v := fun u hu => Int.mul_nonneg (h.H.bW _ u hu) (h.H.si hu v).1
 have et : (t : Int) - 1 = ((t - 1 : Nat) : Int) := by omega
 intro q
 induction q with
 | zero =>
  intro u u' out hq hu ho
  have : u = n := by omega
  subst hu this
  rw [e1] at ho
  have ho2 := ho.congr (g' := gT G f s w o u t (g9 (FW G f s w o u t) (v + 1) 0)) fun j x hj hx => pF (fun y _ => pj _ v y) j x hx
  obtain ⟨X, qX, k1⟩ := nx out ho2
  refine ⟨X, qX, Comes.step aa aZ.p9 [] ?_ k1⟩
  simp only [HM, FT, IB, ag, E.b, E.i, E.v, Env.ext, aO]; rw [m1, lf]; omega
 | succ q ih =>
  intro u u' out hq hu ho
  subst hu
  have hun : u < n := by omega
  have ol := ho.cX
  have rol := ho.rl ht
  have rol1 := ho.rl (j := t - 1) (by omega)
  have old := ho.at ht hv
  rw [Di, vj] at old
  have vV := ho.at (j := t - 1) (v := u) (by omega) hun
  rw [Dh _ (by omega)] at vV
  obtain ⟨s1, s2⟩ := h.si (u := u) (v := v) hun hv
  have sp := jm h (t := t) (v := v) ht hv
  have oa : (O.get (t : Int)).ab = o.getD t 0 := (h.ox ht).1
  have mono := ek (g := fun u => FW G f s w o n (t - 1) u * si s u v * sh G w o t v) (m := u + 1) (n := n) (by omega) nn
  rw [aX, e1] at mono
  have p0 := bN (n := u) (g := fun u => FW G f s w o n (t - 1) u * si s u v * sh G w o t v) fun i hi => nn i (by omega)
  have p1 := nn u hun
  have p2 := nnp u hun
  have p3 := iH (g := fun u => FW G f s w o n (t - 1) u * si s u v) hun nnp
  have es := aX u (fun u => FW G f s w o n (t - 1) u * si s u v * sh G w o t v)
  have put := (ho.put (v := v) ht (ba (u + 1) (fun u => FW G f s w o n (t - 1) u * si s u v * sh G w o t v))).congr (g' := gT G f s w o n t (g9 (FW G f s w o n t) v (ba (u + 1) (fun u => FW G f s w o n (t - 1) u * si s u v * sh G w o t v)))) fun j x hj hx => by
   rw [BQ]; exact pF (fun y _ => sg _ v _ _ y) j x hx
  obtain ⟨X, qX, k1⟩ := ih (u + 1) ((u : Int) + 1) _ (by omega) (by omega) put
  refine ⟨X, qX, Comes.step aa aZ.p8 [.int (sh G w o t v)] ?_ ?_⟩
  ·simp only [HM, FT, IB, ag, E.b, E.i, E.v, Env.ext, aO]; rw [m1, m2, lf, ls, lo, ol, et, rol, rol1, old, vV, s1, s2, oa]
   generalize FW G f s w o n (t - 1) u * si s u v = y at *
   generalize y * sh G w o t v = z at *
   exact ⟨by omega, by omega, by omega, by omega, by omega, by omega, by omega, by omega, by omega, by omega, by omega, by omega, by omega, by omega, by omega, by omega, by omega, by omega, by omega, sp, by omega, by omega, by omega, by omega, by omega, by omega, by omega, by omega, by omega, by omega⟩
  ·simp only [Sub.ev, E.v, E.i, Env.ext, aO]
   rw [m2, et, old, vV, s1, <- es]
   exact k1
theorem jE (h : HV G f s w o n k F S W O) : ∃ X, cT X ((List.range o.length).map (nS G f s w o n)) /\ Fn prog aZ.f [hm G F S W, O] X := by
 have m1 : (hm G F S W).get 1 = F := rfl
 obtain ⟨lf, ls, lw, lo⟩ := h.lens
 have h8 := h.so.l8
 have n1 := h.H.n1
 have n4 := h.H.n4
 obtain ⟨Z, z1, z2⟩ := qi h (m := o.length) h8
 have loop : ∀ (q t : Nat) (t' : Int) (out : V), q + t = o.length -> t' = t -> dL o.length n (gT G f s w o n t (fun _ => 0)) out -> ∃ X, cT X ((List.range o.length).map (nS G f s w o n)) /\ Comes aZ.K aZ.f aZ.s1 ⟨[t'], [], [hm G F S W, O, Z, out]⟩ X := by
  intro q
  induction q with
  | zero =>
   intro t t' out hq ht ho
   have : t = o.length := by omega
   subst ht this
   have ho2 := ho.congr (g' := FW G f s w o n) fun j u hj hu => Dh _ hj
   refine ⟨out, ho2.Ah, Comes.last aa aZ.p3 [] ?_ ?_⟩
   ·simp only [HM, FT, IB, ag, E.b, E.i, E.v, Env.ext, aO]; rw [lo]; omega
   ·simp only [HM, FT, IB, ag, E.b, E.i, E.v, Env.ext, aO]
  | succ q ih =>
   intro t t' out hq ht ho
   subst ht
   have hto : t < o.length := by omega
   have sp := qj h (m := t + 1) (by omega)
   rw [Int.natCast_add] at sp
   by_cases hp : n ^ (t + 1) <= 1024
   ·rw [decide_eq_true hp] at sp
    obtain ⟨P, P1, P2⟩ := qp h (m := t + 1) (by omega) hp
    rw [Int.natCast_add] at P2
    have Pl := P1.cX
    rw [List.length_map, eW] at Pl
    have nx1 : ∀ out1, dL o.length n (gT G f s w o n t (yc G f s w o (jn n (t + 1)) t)) out1 -> ∃ X, cT X ((List.range o.length).map (nS G f s w o n)) /\ Comes aZ.K aZ.f aZ.s1 ⟨[(t : Int) + 1], [], [hm G F S W, O, Z, out1]⟩ X := by
     intro out1 h1
     refine ih (t + 1) ((t : Int) + 1) out1 (by omega) (by omega) (h1.congr fun j u hj hu => ?_)
     rw [pF (fun v hv => vZ t v hv) j u hu, zZ]
    have inner : ∀ (a i : Nat) (i' : Int) (out1 : V), a + i = n ^ (t + 1) -> i' = i -> dL o.length n (gT G f s w o n t (yc G f s w o ((jn n (t + 1)).take i) t)) out1 -> ∃ X, cT X ((List.range o.length).map (nS G f s w o n)) /\ Comes aZ.K aZ.f aZ.s2 ⟨[i', (t : Int)], [], [hm G F S W, O, Z, out, .bool true, out1, P]⟩ X := by
     intro a
     induction a with
     | zero =>
      intro i i' out1 ha hi h1
      subst hi
      rw [List.take_of_length_le (by rw [eW]; omega)] at h1
      obtain ⟨X, qX, k1⟩ := nx1 out1 h1
      refine ⟨X, qX, Comes.step aa aZ.p5 [] ?_ k1⟩
      simp only [HM, FT, IB, ag, E.b, E.i, E.v, Env.ext, aO]; rw [Pl]; omega
     | succ a iha =>
      intro i i' out1 ha hi h1
      subst hi
      obtain ⟨p, hpi⟩ : ∃ p, (jn n (t + 1))[i]? = some p := ⟨_, List.getElem?_eq_getElem (by rw [eW]; omega)⟩
      exact tG h hto P1 hpi (by omega) (Q := fun X => cT X ((List.range o.length).map (nS G f s w o n))) h1 fun out2 h2 => iha (i + 1) ((i : Int) + 1) out2 (by omega) (by omega) h2
    obtain ⟨X, qX, k1⟩ := inner (n ^ (t + 1)) 0 0 out (by omega) rfl (by
     refine ho.congr fun j u hj hu => pF (fun v hv => ?_) j u hu
     rw [List.take_zero]; rfl)
    refine ⟨X, qX, Comes.step aa aZ.p1 [.bool true, P] ?_ k1⟩
    simp only [HM, FT, IB, ag, E.b, E.i, E.v, Env.ext, aO]; rw [lo]
    exact ⟨by omega, by omega, sp, by omega, P2⟩
   ·rw [decide_eq_false hp] at sp
    have ht1 : 1 <= t := by
     by_cases c : t = 0
     ·subst c
      rw [show 0 + 1 = 1 from rfl, Nat.pow_one] at hp
      omega
     ·omega
    have rows : ∀ (a v : Nat) (v' : Int) (out1 : V), a + v = n -> v' = v -> dL o.length n (gT G f s w o n t (g9 (FW G f s w o n t) v 0)) out1 -> ∃ X, cT X ((List.range o.length).map (nS G f s w o n)) /\ Comes aZ.K aZ.f aZ.s3 ⟨[(t : Int), v'], [], [hm G F S W, O, Z, out, out1]⟩ X := by
     intro a
     induction a with
     | zero =>
      intro v v' out1 ha hv h1
      have : v = n := by omega
      subst hv this
      obtain ⟨X, qX, k1⟩ := ih (t + 1) ((t : Int) + 1) out1 (by omega) (by omega) (h1.congr fun j u hj hu => by
       rw [pF (b := FW G f s w o v t) (fun y hy => by unfold g9; rw [if_pos hy]) j u hu, zZ])
      refine ⟨X, qX, Comes.step aa aZ.p7 [] ?_ k1⟩
      simp only [HM, FT, IB, ag, E.b, E.i, E.v, Env.ext, aO]; rw [m1, lf]; omega
     | succ a iha =>
      intro v v' out1 ha hv h1
      subst hv
      obtain ⟨X, qX, k1⟩ := sn h hto ht1 (v := v) (by omega) (Q := fun X => cT X ((List.range o.length).map (nS G f s w o n))) (v2 := Z) (v3 := out) (fun out2 h2 => iha (v + 1) ((v : Int) + 1) out2 (by omega) (by omega) h2) n 0 0 out1 (by omega) rfl h1
      refine ⟨X, qX, Comes.step aa aZ.p6 [] ?_ k1⟩
      simp only [HM, FT, IB, ag, E.b, E.i, E.v, Env.ext, aO]; rw [m1, lf]; omega
    obtain ⟨X, qX, k1⟩ := rows n 0 0 out (by omega) rfl (by
     refine ho.congr fun j u hj hu => pF (fun v hv => ?_) j u hu
     unfold g9; rw [if_neg (by omega)]; split <;> rfl)
    refine ⟨X, qX, Comes.step aa aZ.p2 [.bool false] ?_ k1⟩
    simp only [HM, FT, IB, ag, E.b, E.i, E.v, Env.ext, aO]; rw [lo]
    exact ⟨by omega, by omega, sp⟩
 obtain ⟨X, q1, q2⟩ := loop o.length 0 0 Z (by omega) rfl (z1.congr fun j u hj hu => by unfold gT; rw [if_neg (by omega)]; split <;> rfl)
 refine ⟨X, q1, Fn.of (C := aZ.K) aZ.b (Comes.step aa aZ.p0 [Z] ?_ q2)⟩
 simp only [HM, FT, IB, ag, E.b, E.i, E.v, Env.ext, aO]; rw [lo]; exact z2
end
end X
namespace X
open Go Go.a9 Go.Sym
def qU (n : Nat) : Nat -> List (List Nat)
 | 0 => [[]]
 | m + 1 => (List.range n).flatMap fun x => (qU n m).map (x :: ·)
theorem ux (n : Nat) : ∀ m, qU n (m + 1) = (qU n m).flatMap fun p => (List.range n).map fun s => p ++ [s]
 | 0 => by
  show (List.range n).flatMap (fun x => [[x]]) = [[]].flatMap _
  rw [List.flatMap_cons, List.flatMap_nil, List.append_nil]
  generalize List.range n = l
  induction l with
  | nil => rfl
  | cons a l ih => rw [List.flatMap_cons, ih]; rfl
 | m + 1 => by
  have ih := ux n m
  rw [show qU n (m + 1 + 1) = (List.range n).flatMap fun x => (qU n (m + 1)).map (x :: ·) from rfl]
  rw [show (qU n (m + 1)).flatMap (fun p => (List.range n).map fun s => p ++ [s]) = ((List.range n).flatMap fun x => (qU n m).map (x :: ·)).flatMap (fun p => (List.range n).map fun s => p ++ [s]) from rfl]
  rw [ih, List.flatMap_assoc]
  congr 1
  funext x
  rw [List.map_flatMap, List.flatMap_map]
  congr 1
  funext p
  rw [List.map_map]
  rfl
theorem wU (n : Nat) : ∀ m, jn n m = qU n m
 | 0 => rfl
 | m + 1 => by rw [ux, <- wU n m]; rfl
section
variable (G : Int) (s w : List (List Int)) (o : List Int)
def BP (a t : Nat) : List Nat -> Int
 | [] => 1
 | x :: p => si s a x * sh G w o t x * BP x (t + 1) p
end
section
variable {G : Int} {f : List Int} {s w : List (List Int)} {o : List Int} {n k : Nat} {F S W O : V}
theorem Cr : ∀ (m a t : Nat), t + m = o.length -> cN (qU n m) (BP G s w o a t) = BW G s w o n m a
 | 0, a, t, h => by show cN [[]] _ = _; rw [dJ, xg]; rfl
 | m + 1, a, t, h => by
  rw [show qU n (m + 1) = (List.range n).flatMap fun x => (qU n m).map (x :: ·) from rfl, mA, nE]
  show _ = ba n (fun u => si s a u * sh G w o (o.length - 1 - m) u * BW G s w o n m u)
  refine b6 fun x hx => ?_
  rw [sO, <- Cr m x (t + 1) (by omega), show o.length - 1 - m = t by omega]
  show cN (qU n m) (fun p => si s a x * sh G w o t x * BP G s w o x (t + 1) p) = _
  have : ∀ l : List (List Nat), cN l (fun p => si s a x * sh G w o t x * BP G s w o x (t + 1) p) = si s a x * sh G w o t x * cN l (BP G s w o x (t + 1)) := by
   intro l
   induction l with
   | nil => simp [cN]
   | cons b l ih => rw [dJ, dJ, ih, Int.mul_add]
  exact this _
theorem El {t v : Nat} (ht : t < o.length) : cN (jn n (o.length - 1 - t)) (BP G s w o v (t + 1)) = BT G s w o n t v := by
 rw [wU, Cr _ _ _ (by omega)]; rfl
theorem g8.uP (H : g8 G f s w n k) : ∀ (p : List Nat) (a t : Nat), a < n -> (∀ x ∈ p, x < n) -> 0 <= BP G s w o a t p
 | [], a, t, ha, h => by simp [BP]
 | x :: p, a, t, ha, h => by
  have hx := h x (by simp)
  exact Int.mul_nonneg (Int.mul_nonneg (H.si ha x).1 (H.sh t hx).1) (H.uP p x (t + 1) hx fun y hy => h y (by simp [hy]))
def gB (G : Int) (s w : List (List Int)) (o : List Int) (n t : Nat) (row : Nat -> Int) (j v : Nat) : Int := if t < j then BT G s w o n j v else if j = t then row v else 0
theorem BR {t v : Nat} (row : Nat -> Int) (a : Int) (j u : Nat) : (if j = t /\ u = v then a else gB G s w o n t row j u) = gB G s w o n t (fun x => if x = v then a else row x) j u := by
 unfold gB
 by_cases h1 : t < j
 ·rw [if_neg (by omega), if_pos h1, if_pos h1]
 ·by_cases h2 : j = t
  ·rw [if_neg h1, if_neg h1, if_pos h2, if_pos h2]
   by_cases h3 : u = v
   ·simp only [if_pos (show j = t /\ u = v from ⟨h2, h3⟩), if_pos h3]
   ·simp only [if_neg (show ¬ (j = t /\ u = v) from fun c => h3 c.2), if_neg h3]
  ·rw [if_neg (fun c => h2 c.1), if_neg h1, if_neg h2, if_neg h1, if_neg h2]
theorem Dj {t v : Nat} (row : Nat -> Int) : gB G s w o n t row t v = row v := by unfold gB; rw [if_neg (by omega), if_pos rfl]
theorem D7 {t j v : Nat} (row : Nat -> Int) (h : t < j) : gB G s w o n t row j v = BT G s w o n j v := by unfold gB; rw [if_pos h]
theorem pG {t : Nat} {a b : Nat -> Int} (e : ∀ v, v < n -> a v = b v) (j u : Nat) (hu : u < n) : gB G s w o n t a j u = gB G s w o n t b j u := by
 unfold gB; split
 ·rfl
 ·split
  ·exact e u hu
  ·rfl
theorem ss (h : HV G f s w o n k F S W O) {t v m i : Nat} (ht : t + 1 + m = o.length) (hv : v < n) {p : List Nat} (pl : p.length = m) (px : ∀ x ∈ p, x < n) {Q : V -> Prop} {v2 v3 v4 out P : V} (row : Zs (P.get (i : Int)) (IL p)) (hi : i < P.bx.length)
  (nx : ∃ X, Q X /\ Comes aH.K aH.f aH.s4 ⟨[(t : Int), (v : Int), (i : Int) + 1], [], [hm G F S W, O, v2, v3, v4, out.set (t : Int) ((out.get (t : Int)).set (v : Int) (.int (((out.get (t : Int)).get (v : Int)).ab + BP G s w o v (t + 1) p))), P]⟩ X)
  (ol : out.len = (o.length : Int)) (rol : (out.get (t : Int)).len = (n : Int)) (hi5 : i < 1024) (fit : 0 <= ((out.get (t : Int)).get (v : Int)).ab + BP G s w o v (t + 1) p /\ ((out.get (t : Int)).get (v : Int)).ab + BP G s w o v (t + 1) p <= 184884258895036416) :
  ∀ (q j : Nat) (j' a' z : Int) (a : Nat), q + j = m -> j' = j -> a' = (a : Int) -> a < n -> 0 <= z -> z <= G ^ (2 * j) -> z * BP G s w o a (t + 1 + j) (p.drop j) = BP G s w o v (t + 1) p ->
   ∃ X, Q X /\ Comes aH.K aH.f aH.s5 ⟨[z, a', j', (t : Int), (v : Int), (i : Int)], [], [hm G F S W, O, v2, v3, v4, out, P]⟩ X := by
 have m2 : (hm G F S W).get 2 = S := rfl
 obtain ⟨lf, ls, lw, lo⟩ := h.lens
 have h8 := h.so.l8
 have n4 := h.H.n4
 have Pl : P.len = (P.bx.length : Int) := rfl
 have rl := row.len
 rw [show (IL p).length = m by unfold IL; simp [pl]] at rl
 intro q
 induction q with
 | zero =>
  intro j j' a' z a hq hj ha han z0 z1 hz
  have : j = m := by omega
  subst hj ha this
  rw [List.drop_eq_nil_of_le (by omega)] at hz
  have hz : z = BP G s w o v (t + 1) p := by rw [<- hz]; simp [BP]
  obtain ⟨X, qX, k1⟩ := nx
  subst hz
  refine ⟨X, qX, Comes.step aa aH.D1 [] ?_ k1⟩
  simp only [HM, FT, IB, ag, E.b, E.i, E.v, Env.ext, aO]; rw [Pl, rl, ol, rol]; omega
 | succ q ih =>
  intro j j' a' z a hq hj ha han z0 z1 hz
  subst hj ha
  have hjm : j < p.length := by omega
  obtain ⟨x, hx⟩ : ∃ x, p[j]? = some x := ⟨_, List.getElem?_eq_getElem hjm⟩
  have hxn := px x (List.mem_of_getElem? hx)
  have pa : ((P.get (i : Int)).get (j : Int)).ab = (x : Int) := row.get (by unfold IL; rw [List.getElem?_map, hx]; rfl)
  rw [drop_cons' hx] at hz
  obtain ⟨s1, s2⟩ := h.si (u := a) (v := x) han hxn
  obtain ⟨a1, a2⟩ := h.H.si han x
  obtain ⟨b1, b2⟩ := h.H.sh (o := o) (t + 1 + j) hxn
  have sp := jm h (t := t + 1 + j) (v := x) (by omega) hxn
  have ej : (t : Int) + 1 + (j : Int) = ((t + 1 + j : Nat) : Int) := by omega
  have oa : (O.get ((t + 1 + j : Nat) : Int)).ab = o.getD (t + 1 + j) 0 := (h.ox (t := t + 1 + j) (by omega)).1
  have g0 : ∀ y, 0 <= G ^ y := fun y => by have := (sx h.H.g1 h.H.g2 y).2; omega
  have c0 := Int.mul_nonneg z0 a1
  have c1 : z * si s a x <= G ^ (2 * j) * G := Int.mul_le_mul z1 a2 a1 (g0 _)
  have c2 : z * si s a x * sh G w o (t + 1 + j) x <= G ^ (2 * j) * G * G := Int.mul_le_mul c1 b2 b1 (Int.mul_nonneg (g0 _) (by have := h.H.g1; omega))
  have c3 := Int.mul_nonneg c0 b1
  have e : G ^ (2 * j) * G * G = G ^ (2 * (j + 1)) := by rw [show 2 * (j + 1) = 2 * j + 1 + 1 by omega, Int.pow_succ, Int.pow_succ]
  have d1 := n8 h.H.g1 h.H.g2 (m := 2 * j + 1) (by omega)
  rw [Int.pow_succ] at d1
  have d2 := n8 h.H.g1 h.H.g2 (m := 2 * (j + 1)) (by omega)
  rw [<- e] at d2
  have hz2 : z * si s a x * sh G w o (t + 1 + j) x * BP G s w o x (t + 1 + (j + 1)) (p.drop (j + 1)) = BP G s w o v (t + 1) p := by
   rw [<- hz]
   show _ = z * (si s a x * sh G w o (t + 1 + j) x * BP G s w o x (t + 1 + j + 1) (p.drop (j + 1)))
   rw [show t + 1 + (j + 1) = t + 1 + j + 1 by omega, Int.mul_assoc z, Int.mul_assoc z]
  obtain ⟨X, qX, k1⟩ := ih (j + 1) ((j : Int) + 1) (x : Int) (z * si s a x * sh G w o (t + 1 + j) x) x (by omega) (by omega) rfl hxn c3 (by rw [<- e]; exact c2) hz2
  refine ⟨X, qX, Comes.step aa aH.CI [.int (sh G w o (t + 1 + j) x)] ?_ ?_⟩
  ·simp only [HM, FT, IB, ag, E.b, E.i, E.v, Env.ext, aO]; rw [m2, Pl, rl, ls, pa, s2, s1, ej, oa, lo]
   generalize z * si s a x = y at *
   generalize y * sh G w o (t + 1 + j) x = z2 at *
   exact ⟨by omega, by omega, by omega, by omega, by omega, by omega, by omega, by omega, by omega, by omega, by omega, by omega, sp, by omega, by omega, by omega, by omega⟩
  ·simp only [Sub.ev, E.v, E.i, Env.ext, aO]
   rw [m2, pa, s1]
   exact k1
end
end X
namespace X
open Go Go.a9 Go.Sym
section
variable {G : Int} {f : List Int} {s w : List (List Int)} {o : List Int} {n k : Nat} {F S W O : V}
theorem qT (h : HV G f s w o n k F S W O) {t v m : Nat} (ht : t + 1 + m = o.length) (hv : v < n) (hp : n ^ m <= 1024) {P : V} (hP : cT P ((jn n m).map IL)) {Q : V -> Prop} {Z v3 : V}
  (nx : ∀ out', dL o.length n (gB G s w o n t (g9 (BT G s w o n t) (v + 1) 0)) out' -> ∃ X, Q X /\ Comes aH.K aH.f aH.s2 ⟨[(v : Int) + 1, (t : Int)], [], [hm G F S W, O, Z, out']⟩ X) :
  ∀ (q i : Nat) (i' : Int) (out : V), q + i = n ^ m -> i' = i -> dL o.length n (gB G s w o n t (g9 (BT G s w o n t) v (cN ((jn n m).take i) (BP G s w o v (t + 1))))) out -> ∃ X, Q X /\ Comes aH.K aH.f aH.s4 ⟨[(t : Int), (v : Int), i'], [], [hm G F S W, O, Z, v3, .bool true, out, P]⟩ X := by
 have Pl := hP.cX
 rw [List.length_map, eW] at Pl
 have Pe := hP.len
 rw [List.length_map, eW] at Pe
 have h8 := h.so.l8
 have hto : t < o.length := by omega
 have full : cN (jn n m) (BP G s w o v (t + 1)) = BT G s w o n t v := by
  have := El (G := G) (s := s) (w := w) (n := n) (v := v) hto
  rwa [show o.length - 1 - t = m by omega] at this
 have nn : ∀ p ∈ jn n m, 0 <= BP G s w o v (t + 1) p := fun p hp => h.H.uP p v (t + 1) hv (ki hp).2
 have fle := h.H.B9 (o := o) h8 h.so.l1 t hv
 intro q
 induction q with
 | zero =>
  intro i i' out hq hi ho
  subst hi
  rw [List.take_of_length_le (by rw [eW]; omega), full] at ho
  obtain ⟨X, qX, k1⟩ := nx out (ho.congr fun j x hj hx => pG (fun y _ => pj _ v y) j x hx)
  refine ⟨X, qX, Comes.step aa aH.p9 [] ?_ k1⟩
  simp only [HM, FT, IB, ag, E.b, E.i, E.v, Env.ext, aO]; rw [Pl]; have := h.H.n4; omega
 | succ q ih =>
  intro i i' out hq hi ho
  subst hi
  obtain ⟨p, hpi⟩ : ∃ p, (jn n m)[i]? = some p := ⟨_, List.getElem?_eq_getElem (by rw [eW]; omega)⟩
  obtain ⟨pl, px⟩ := ki (List.mem_of_getElem? hpi)
  have row := hP.row i (IL p) (by rw [List.getElem?_map, hpi]; rfl)
  have ol := ho.cX
  have rol := ho.rl hto
  have old := ho.at hto hv
  rw [Dj, vj] at old
  have es := uD (g := BP G s w o v (t + 1)) hpi
  have le1 := ou nn (i + 1)
  rw [full] at le1
  have ge0 : 0 <= cN ((jn n m).take i) (BP G s w o v (t + 1)) := lA fun a ha => nn a (List.mem_of_mem_take ha)
  have p0 := nn p (List.mem_of_getElem? hpi)
  have put := (ho.put (v := v) hto (cN ((jn n m).take (i + 1)) (BP G s w o v (t + 1)))).congr (g' := gB G s w o n t (g9 (BT G s w o n t) v (cN ((jn n m).take (i + 1)) (BP G s w o v (t + 1))))) fun j x hj hx => by
   rw [BR]; exact pG (fun y _ => sg _ v _ _ y) j x hx
  obtain ⟨X, qX, k1⟩ := ss h ht hv pl px (i := i) (Q := Q) (v2 := Z) (v3 := v3) (v4 := .bool true) (out := out) (P := P) row (by rw [Pe]; omega)
   (by
    have := ih (i + 1) ((i : Int) + 1) _ (by omega) (by omega) put
    rw [old, <- es]
    exact this) ol rol (by omega) (by rw [old, <- es]; omega) m 0 0 (v : Int) 1 v (by omega) rfl rfl hv (by omega) (by simp) (by simp)
  refine ⟨X, qX, Comes.step aa aH.p8 [] ?_ k1⟩
  simp only [HM, FT, IB, ag, E.b, E.i, E.v, Env.ext, aO]; rw [Pl]; omega
theorem qS (h : HV G f s w o n k F S W O) {t v : Nat} (ht : t + 1 < o.length) (hv : v < n) {Q : V -> Prop} {Z v3 : V}
  (nx : ∀ out', dL o.length n (gB G s w o n t (g9 (BT G s w o n t) (v + 1) 0)) out' -> ∃ X, Q X /\ Comes aH.K aH.f aH.s2 ⟨[(v : Int) + 1, (t : Int)], [], [hm G F S W, O, Z, out']⟩ X) :
  ∀ (q u : Nat) (u' : Int) (out : V), q + u = n -> u' = u -> dL o.length n (gB G s w o n t (g9 (BT G s w o n t) v (ba u (fun u => si s v u * sh G w o (t + 1) u * BT G s w o n (t + 1) u)))) out ->
   ∃ X, Q X /\ Comes aH.K aH.f aH.s3 ⟨[u', (t : Int), (v : Int)], [], [hm G F S W, O, Z, v3, out]⟩ X := by
 have m1 : (hm G F S W).get 1 = F := rfl
 have m2 : (hm G F S W).get 2 = S := rfl
 obtain ⟨lf, ls, lw, lo⟩ := h.lens
 have h8 := h.so.l8
 have n4 := h.H.n4
 have hto : t < o.length := by omega
 have nn : ∀ u, u < n -> 0 <= si s v u * sh G w o (t + 1) u * BT G s w o n (t + 1) u := fun u hu => Int.mul_nonneg (Int.mul_nonneg (h.H.si hv u).1 (h.H.sh _ hu).1) (h.H.pN _ hu)
 have fle := h.H.B9 (o := o) h8 h.so.l1 t hv
 rw [rH ht] at fle
 have et : (t : Int) + 1 = ((t + 1 : Nat) : Int) := by omega
 intro q
 induction q with
 | zero =>
  intro u u' out hq hu ho
  have : u = n := by omega
  subst hu this
  rw [<- rH ht] at ho
  obtain ⟨X, qX, k1⟩ := nx out (ho.congr fun j x hj hx => pG (fun y _ => pj _ v y) j x hx)
  refine ⟨X, qX, Comes.step aa aH.p7 [] ?_ k1⟩
  simp only [HM, FT, IB, ag, E.b, E.i, E.v, Env.ext, aO]; rw [m1, lf]; omega
 | succ q ih =>
  intro u u' out hq hu ho
  subst hu
  have hun : u < n := by omega
  have ol := ho.cX
  have rol := ho.rl hto
  have rol1 := ho.rl ht
  have old := ho.at hto hv
  rw [Dj, vj] at old
  have vV := ho.at ht hun
  rw [D7 _ (by omega)] at vV
  obtain ⟨s1, s2⟩ := h.si (u := v) (v := u) hv hun
  have sp := jm h (t := t + 1) (v := u) ht hun
  have oa : (O.get ((t + 1 : Nat) : Int)).ab = o.getD (t + 1) 0 := (h.ox ht).1
  have mono := ek (m := u + 1) (n := n) (by omega) nn
  rw [aX] at mono
  have p0 := bN (n := u) (g := fun u => si s v u * sh G w o (t + 1) u * BT G s w o n (t + 1) u) fun i hi => nn i (by omega)
  have p1 := nn u hun
  obtain ⟨p2, p3⟩ := Db h.H (h.H.si hv u) (h.H.sh (o := o) (t + 1) hun)
  have es := aX u (fun u => si s v u * sh G w o (t + 1) u * BT G s w o n (t + 1) u)
  have put := (ho.put (v := v) hto (ba (u + 1) (fun u => si s v u * sh G w o (t + 1) u * BT G s w o n (t + 1) u))).congr (g' := gB G s w o n t (g9 (BT G s w o n t) v (ba (u + 1) (fun u => si s v u * sh G w o (t + 1) u * BT G s w o n (t + 1) u)))) fun j x hj hx => by
   rw [BR]; exact pG (fun y _ => sg _ v _ _ y) j x hx
  obtain ⟨X, qX, k1⟩ := ih (u + 1) ((u : Int) + 1) _ (by omega) (by omega) put
  refine ⟨X, qX, Comes.step aa aH.p6 [.int (sh G w o (t + 1) u)] ?_ ?_⟩
  ·simp only [HM, FT, IB, ag, E.b, E.i, E.v, Env.ext, aO]; rw [et, m1, m2, lf, ls, lo, ol, rol, rol1, old, vV, s1, s2, oa]
   generalize si s v u * sh G w o (t + 1) u = y at *
   generalize y * BT G s w o n (t + 1) u = z at *
   exact ⟨by omega, by omega, by omega, by omega, by omega, by omega, by omega, by omega, by omega, by omega, by omega, by omega, by omega, by omega, by omega, by omega, by omega, by omega, by omega, sp, by omega, by omega, by omega, by omega, by omega, by omega, by omega, by omega, by omega, by omega, by omega⟩
  ·simp only [Sub.ev, E.v, E.i, Env.ext, aO]
   rw [m2, et, old, vV, s1, <- es]
   exact k1
theorem su (h : HV G f s w o n k F S W O) : ∃ X, cT X ((List.range o.length).map (oK G s w o n)) /\ Fn prog aH.f [hm G F S W, O] X := by
 have m1 : (hm G F S W).get 1 = F := rfl
 obtain ⟨lf, ls, lw, lo⟩ := h.lens
 have h8 := h.so.l8
 have l1 := h.so.l1
 have n1 := h.H.n1
 have n4 := h.H.n4
 obtain ⟨Z, z1, z2⟩ := qi h (m := o.length) h8
 -- a step: all rows from t + 1 on are there
 have step : ∀ (t : Nat) (out : V), t < o.length -> dL o.length n (gB G s w o n t (fun _ => 0)) out ->
   (∀ out', dL o.length n (gB G s w o n t (BT G s w o n t)) out' -> ∃ X, cT X ((List.range o.length).map (oK G s w o n)) /\ Comes aH.K aH.f aH.s1 ⟨[(t : Int) - 1], [], [hm G F S W, O, Z, out']⟩ X) ->
   ∃ X, cT X ((List.range o.length).map (oK G s w o n)) /\ Comes aH.K aH.f aH.s1 ⟨[(t : Int)], [], [hm G F S W, O, Z, out]⟩ X := by
  intro t out hto ho nx
  have em : (o.length : Int) - 1 - (t : Int) = ((o.length - 1 - t : Nat) : Int) := by omega
  have sp := qj h (m := o.length - 1 - t) (by omega)
  have rows : ∀ (a v : Nat) (v' : Int) (out1 : V), a + v = n -> v' = v -> dL o.length n (gB G s w o n t (g9 (BT G s w o n t) v 0)) out1 -> ∃ X, cT X ((List.range o.length).map (oK G s w o n)) /\ Comes aH.K aH.f aH.s2 ⟨[v', (t : Int)], [], [hm G F S W, O, Z, out1]⟩ X := by
   intro a
   induction a with
   | zero =>
    intro v v' out1 ha hv h1
    have : v = n := by omega
    subst hv this
    obtain ⟨X, qX, k1⟩ := nx out1 (h1.congr fun j u hj hu => pG (fun y hy => by unfold g9; rw [if_pos hy]) j u hu)
    refine ⟨X, qX, Comes.step aa aH.p5 [] ?_ k1⟩
    simp only [HM, FT, IB, ag, E.b, E.i, E.v, Env.ext, aO]; rw [m1, lf]; omega
   | succ a iha =>
    intro v v' out1 ha hv h1
    subst hv
    have hvn : v < n := by omega
    have nx2 : ∀ out', dL o.length n (gB G s w o n t (g9 (BT G s w o n t) (v + 1) 0)) out' -> ∃ X, cT X ((List.range o.length).map (oK G s w o n)) /\ Comes aH.K aH.f aH.s2 ⟨[(v : Int) + 1, (t : Int)], [], [hm G F S W, O, Z, out']⟩ X := fun out' h2 => iha (v + 1) ((v : Int) + 1) out' (by omega) (by omega) h2
    by_cases hp : n ^ (o.length - 1 - t) <= 1024
    ·rw [decide_eq_true hp] at sp
     obtain ⟨P, P1, P2⟩ := qp h (m := o.length - 1 - t) (by omega) hp
     obtain ⟨X, qX, k1⟩ := qT h (t := t) (v := v) (m := o.length - 1 - t) (by omega) hvn hp P1 (Q := fun X => cT X ((List.range o.length).map (oK G s w o n))) (Z := Z) (v3 := out1) nx2 (n ^ (o.length - 1 - t)) 0 0 out1 (by omega) rfl (by
      rw [List.take_zero]; exact h1)
     refine ⟨X, qX, Comes.step aa aH.p4 [.bool true, P] ?_ k1⟩
     simp only [HM, FT, IB, ag, E.b, E.i, E.v, Env.ext, aO]; rw [m1, lf, lo, em]
     exact ⟨by omega, by omega, by omega, sp, by omega, by omega, P2⟩
    ·rw [decide_eq_false hp] at sp
     have ht1 : t + 1 < o.length := by
      by_cases c : t + 1 = o.length
      ·rw [show o.length - 1 - t = 0 by omega, Nat.pow_zero] at hp; omega
      ·omega
     obtain ⟨X, qX, k1⟩ := qS h ht1 hvn (Q := fun X => cT X ((List.range o.length).map (oK G s w o n))) (Z := Z) (v3 := out1) nx2 n 0 0 out1 (by omega) rfl h1
     refine ⟨X, qX, Comes.step aa aH.p3 [.bool false] ?_ k1⟩
     simp only [HM, FT, IB, ag, E.b, E.i, E.v, Env.ext, aO]; rw [m1, lf, lo, em]
     exact ⟨by omega, by omega, by omega, sp⟩
  obtain ⟨X, qX, k1⟩ := rows n 0 0 out (by omega) rfl (ho.congr fun j u hj hu => pG (fun y hy => by unfold g9; rw [if_neg (by omega)]; split <;> rfl) j u hu)
  refine ⟨X, qX, Comes.step aa aH.p1 [] ?_ k1⟩
  simp only [HM, FT, IB, ag, E.b, E.i, E.v, Env.ext, aO]; omega
 have loop : ∀ (q : Nat) (out : V), q <= o.length -> (∀ t, q = t + 1 -> dL o.length n (gB G s w o n t (fun _ => 0)) out) -> (q = 0 -> dL o.length n (BT G s w o n) out) -> ∃ X, cT X ((List.range o.length).map (oK G s w o n)) /\ Comes aH.K aH.f aH.s1 ⟨[(q : Int) - 1], [], [hm G F S W, O, Z, out]⟩ X := by
  intro q
  induction q with
  | zero =>
   intro out hq _ h0
   refine ⟨out, (h0 rfl).Ah, Comes.last aa aH.p2 [] ?_ ?_⟩
   ·simp only [HM, FT, IB, ag, E.b, E.i, E.v, Env.ext, aO]; omega
   ·simp only [HM, FT, IB, ag, E.b, E.i, E.v, Env.ext, aO]
  | succ t ih =>
   intro out hq h1 _
   rw [show ((t + 1 : Nat) : Int) - 1 = (t : Int) by omega]
   refine step t out (by omega) (h1 t rfl) fun out' h2 => ih out' (by omega) (fun t' e => ?_) fun e => ?_
   ·subst e
    refine h2.congr fun j u hj hu => ?_
    unfold gB
    by_cases c : t' + 1 < j
    ·rw [if_pos c, if_pos (by omega)]
    ·by_cases c2 : j = t' + 1
     ·rw [if_neg c, if_pos c2, if_pos (by omega), c2]
     ·rw [if_neg c, if_neg c2, if_neg (by omega)]; split <;> rfl
   ·subst e
    refine h2.congr fun j u hj hu => ?_
    unfold gB
    by_cases c : 0 < j
    ·rw [if_pos c]
    ·rw [if_neg c, if_pos (by omega), show j = 0 by omega]
 obtain ⟨X, q1, q2⟩ := loop o.length Z (by omega) (fun t e => z1.congr fun j u hj hu => by unfold gB; rw [if_neg (by omega)]; split <;> rfl) (by omega)
 refine ⟨X, q1, Fn.of (C := aH.K) aH.b (Comes.step aa aH.p0 [Z] ?_ ?_)⟩
 ·simp only [HM, FT, IB, ag, E.b, E.i, E.v, Env.ext, aO]; rw [lo]; exact ⟨z2, by omega⟩
 ·simp only [Sub.ev, E.v, E.i, Env.ext, aO]
  rw [lo]; exact q2
end
end X
namespace X
open Go Go.a9 Go.Sym
section
variable {G : Int} {f : List Int} {s w : List (List Int)} {o : List Int} {F S W O : V}
theorem De {x : V} {n : Nat} (h : x.len = n) : vz x.len 10 = ((min n 10 : Nat) : Int) := by
 rw [h]; unfold vz; split <;> omega
theorem Eb {R : V} {o : List Int} (h : Zs R o) : Zs (R.sub 0 (vz R.len 10)) (o.take (min o.length 10)) /\ (o.take (min o.length 10)).length <= 10 := by
 have := h.sub ((min o.length 10 : Nat) : Int)
 rw [Int.toNat_natCast] at this
 rw [De h.len]
 exact ⟨this, by rw [List.length_take]; omega⟩
inductive Dm (G : Int) (F S W O : V) : Prop
 | bad {c : Int} : c ≠ 0 -> Fn prog sT.f [hm G F S W, O] (.list [.nil, .int c]) -> Fn prog pD.f [hm G F S W, O] (.list [.nil, .int c]) -> Fn prog gJ.f [hm G F S W, O] (.int c) -> Dm G F S W O
 | ok {X Y X' Y' : V} : Fn prog sT.f [hm G F S W, O] (.list [X, .int 0]) -> Fn prog pD.f [hm G F S W, O] (.list [Y, .int 0]) -> Fn prog gJ.f [hm G F S W, O] (.int 0) -> Fn prog aZ.f [hm G F S W, O] X' -> Fn prog pX.f [X, X'] (.bool true) -> Fn prog aH.f [hm G F S W, O] Y' -> Fn prog pX.f [Y, Y'] (.bool true) -> Dm G F S W O
end
end X
namespace X
open Go Go.a9 Go.Sym
section
variable {G : Int} {f : List Int} {s w : List (List Int)} {o : List Int} {n k : Nat} {F S W O : V}
theorem jQ (h : HV G f s w o n k F S W O) : Fn prog Bu.f [hm G F S W, O] (.int (X.fm G f s w o n)) := by
 obtain ⟨Y, y1, y2⟩ := jE h
 have h8 := h.so.l8
 have l1 := h.so.l1
 have n4 := h.H.n4
 have yl := ji y1
 have e1 : (o.length : Int) - 1 = ((o.length - 1 : Nat) : Int) := by omega
 have hz := kY y1 (t := o.length - 1) (by omega)
 have tt := qm (l := nS G f s w o n (o.length - 1)) hz (by rw [bp]; omega) (fun i hi => by rw [bp] at hi; rw [sV hi]; exact h.H.bW _ i hi) h.fm.2
 refine Fn.of (C := Bu.K) Bu.b (Comes.last aa Bu.p0 [Y, .int (X.fm G f s w o n)] ?_ rfl)
 simp only [HM, FT, IB, ag, E.b, E.i, E.v, Env.ext, aO]; rw [yl, e1]
 exact ⟨y2, by omega, by omega, tt⟩
theorem wR (h : HV G f s w o n k F S W O) : Fn prog iP.f [hm G F S W, O] (.list [jH (X.fm G f s w o n) (G ^ (2 * o.length)), .int 0]) := by
 obtain ⟨t1, t2⟩ := h.fm
 obtain ⟨lf, ls, lw, lo⟩ := h.lens
 have h8 := h.so.l8
 have m0 : ((hm G F S W).get 0).ab = G := rfl
 have re := fy h.mod h.O (by omega)
 rw [h.code] at re
 obtain ⟨pw1, pw2⟩ := h.H.CS (m := 2 * o.length) (by omega)
 have mk := EM (a := X.fm G f s w o n) (b := G ^ (2 * o.length)) t1 t2 (by omega) pw2
 have loop : ∀ (q t : Nat) (t' a : Int), q + t = 2 * o.length -> t' = t -> a = G ^ t -> Comes iP.K iP.f iP.s1 ⟨[a, t'], [], [hm G F S W, O, .int 0]⟩ (.list [jH (X.fm G f s w o n) (G ^ (2 * o.length)), .int 0]) := by
  intro q
  induction q with
  | zero =>
   intro t t' a hq ht ha
   have : t = 2 * o.length := by omega
   subst ht ha this
   refine Comes.last aa iP.p3 [.int (X.fm G f s w o n), jH (X.fm G f s w o n) (G ^ (2 * o.length))] ?_ rfl
   simp only [HM, FT, IB, ag, E.b, E.i, E.v, Env.ext, aO]; rw [lo]
   exact ⟨by omega, by omega, jQ h, mk⟩
  | succ q ih =>
   intro t t' a hq ht ha
   subst ht ha
   obtain ⟨b1, b2⟩ := h.H.CS (m := t + 1) (by omega)
   have e : G ^ t * G = G ^ (t + 1) := by rw [Int.pow_succ]
   refine Comes.step aa iP.p2 [] ?_ ?_
   ·simp only [HM, FT, IB, ag, E.b, E.i, E.v, Env.ext, aO]; rw [lo, m0, e]; omega
   ·simp only [Sub.ev, E.v, E.i, Env.ext, aO]
    rw [m0, e]
    exact ih (t + 1) ((t : Int) + 1) _ (by omega) (by omega) rfl
 refine Fn.of (C := iP.K) iP.b (Comes.step aa iP.p1 [.int 0] ?_ (loop (2 * o.length) 0 0 1 (by omega) rfl (by simp)))
 simp only [HM, FT, IB, ag, E.b, E.i, E.v, Env.ext, aO]
 exact re
theorem Au (M : HMod G F S W f s w) (hO : Zs O o) (hl : o.length <= 10) (h : ¬ bC G f s w o = 0) : Fn prog iP.f [hm G F S W, O] (.list [.list [.int 0, .int 0], .int (bC G f s w o)]) := by
 refine Fn.of (C := iP.K) iP.b (Comes.last aa iP.p0 [.int (bC G f s w o)] ?_ rfl)
 simp only [HM, FT, IB, ag, E.b, E.i, E.v, Env.ext, aO]
 exact ⟨fy M hO hl, h⟩
theorem wS (M : HMod G F S W f s w) (hO : Zs O o) (hl : o.length <= 10) (h : ¬ bC G f s w o = 0) : Fn prog cG.f [hm G F S W, O] (.list [.nil, .int (bC G f s w o)]) := by
 refine Fn.of (C := cG.K) cG.b (Comes.last aa cG.p0 [.int (bC G f s w o)] ?_ rfl)
 simp only [HM, FT, IB, ag, E.b, E.i, E.v, Env.ext, aO]
 exact ⟨fy M hO hl, h⟩
theorem wP (M : HMod G F S W f s w) (hO : Zs O o) (hl : o.length <= 10) (h : ¬ bC G f s w o = 0) : Fn prog bX.f [hm G F S W, O] (.list [.nil, .int (bC G f s w o)]) := by
 refine Fn.of (C := bX.K) bX.b (Comes.last aa bX.p0 [.int (bC G f s w o)] ?_ rfl)
 simp only [HM, FT, IB, ag, E.b, E.i, E.v, Env.ext, aO]
 exact ⟨fy M hO hl, h⟩
theorem zP (h : HV G f s w o n k F S W O) : Fn prog gJ.f [hm G F S W, O] (.int 0) := by
 have := fy h.mod h.O (by have := h.so.l8; omega)
 rwa [h.code] at this
theorem vo (h : HV G f s w o n k F S W O) (h0 : X.fm G f s w o n = 0) : Fn prog cG.f [hm G F S W, O] (.list [.nil, .int 7]) := by
 have a := jQ h
 rw [h0] at a
 refine Fn.of (C := cG.K) cG.b (Comes.last aa cG.p1 [.int 0, .int 0] ?_ rfl)
 simp only [HM, FT, IB, ag, E.b, E.i, E.v, Env.ext, aO]
 exact ⟨zP h, a⟩
theorem vn (h : HV G f s w o n k F S W O) (h0 : X.fm G f s w o n = 0) : Fn prog bX.f [hm G F S W, O] (.list [.nil, .int 7]) := by
 have a := jQ h
 rw [h0] at a
 refine Fn.of (C := bX.K) bX.b (Comes.last aa bX.p1 [.int 0, .int 0] ?_ rfl)
 simp only [HM, FT, IB, ag, E.b, E.i, E.v, Env.ext, aO]
 exact ⟨zP h, a⟩
theorem AO (h : HV G f s w o n k F S W O) (h0 : ¬ X.fm G f s w o n = 0) {t : Nat} (ht : t < o.length) {x : V} (hx : Zs x (nS G f s w o n t)) : Fn prog eV.f [x] (shr (nS G f s w o n t) (ba n (FW G f s w o n t))) := by
 have h8 := h.so.l8
 have n4 := h.H.n4
 exact n7 (l := nS G f s w o n t) hx (by rw [bp]; omega) (fun i hi => by rw [bp] at hi; rw [sV hi]; exact h.H.bW _ i hi) (h.H.yU (by omega)) (h.sU h0 ht)
theorem yH (h : HV G f s w o n k F S W O) (h0 : ¬ X.fm G f s w o n = 0) : Fn prog cG.f [hm G F S W, O] (.list [nJ G f s w o n o.length, .int 0]) := by
 obtain ⟨Y, y1, y2⟩ := jE h
 obtain ⟨lf, ls, lw, lo⟩ := h.lens
 have h8 := h.so.l8
 have yl := ji y1
 have loop : ∀ (q t : Nat) (t' : Int), q + t = o.length -> t' = t -> Comes cG.K cG.f cG.s1 ⟨[t'], [], [hm G F S W, O, .int 0, .int (X.fm G f s w o n), Y, nJ G f s w o n t]⟩ (.list [nJ G f s w o n o.length, .int 0]) := by
  intro q
  induction q with
  | zero =>
   intro t t' hq ht
   have : t = o.length := by omega
   subst ht this
   refine Comes.last aa cG.p4 [] ?_ rfl
   simp only [HM, FT, IB, ag, E.b, E.i, E.v, Env.ext, aO]; rw [lo]; omega
  | succ q ih =>
   intro t t' hq ht
   subst ht
   have hto : t < o.length := by omega
   have sh' := AO h h0 hto (kY y1 hto)
   have nx := ih (t + 1) ((t : Int) + 1) (by omega) (by omega)
   rw [<- uM] at nx
   have fl := xD (G := G) (f := f) (s := s) (w := w) (o := o) (n := n) t
   refine Comes.step aa cG.p3 [shr (nS G f s w o n t) (ba n (FW G f s w o n t))] ?_ nx
   simp only [HM, FT, IB, ag, E.b, E.i, E.v, Env.ext, aO]; rw [lo, yl, fl]
   exact ⟨by omega, by omega, sh', by omega, by omega⟩
 refine Fn.of (C := cG.K) cG.b (Comes.step aa cG.p2 [.int 0, .int (X.fm G f s w o n), Y] ?_ (loop o.length 0 0 (by omega) rfl))
 simp only [HM, FT, IB, ag, E.b, E.i, E.v, Env.ext, aO]
 exact ⟨zP h, jQ h, h0, y2⟩
theorem yF (h : HV G f s w o n k F S W O) (h0 : ¬ X.fm G f s w o n = 0) : Fn prog bX.f [hm G F S W, O] (.list [yo G f s w o n o.length, .int 0]) := by
 have m1 : (hm G F S W).get 1 = F := rfl
 obtain ⟨Y, y1, y2⟩ := jE h
 obtain ⟨Z, z1, z2⟩ := su h
 obtain ⟨lf, ls, lw, lo⟩ := h.lens
 have h8 := h.so.l8
 have n4 := h.H.n4
 have yl := ji y1
 have zl := ji z1
 obtain ⟨t1, t2⟩ := h.fm
 have loop : ∀ (q t : Nat) (t' : Int), q + t = o.length -> t' = t -> Comes bX.K bX.f bX.s1 ⟨[t'], [], [hm G F S W, O, .int 0, .int (X.fm G f s w o n), Y, Z, yo G f s w o n t]⟩ (.list [yo G f s w o n o.length, .int 0]) := by
  intro q
  induction q with
  | zero =>
   intro t t' hq ht
   have : t = o.length := by omega
   subst ht this
   refine Comes.last aa bX.p4 [] ?_ rfl
   simp only [HM, FT, IB, ag, E.b, E.i, E.v, Env.ext, aO]; rw [lo]; omega
  | succ q ih =>
   intro t t' hq ht
   subst ht
   have hto : t < o.length := by omega
   obtain ⟨mt, nn⟩ := wD h hto
   have ry := kY y1 hto
   have rz := kY z1 hto
   have ryl := ry.len
   have rzl := rz.len
   rw [bp] at ryl rzl
   have nx := ih (t + 1) ((t : Int) + 1) (by omega) (by omega)
   rw [<- wE] at nx
   have sl := zJ (G := G) (f := f) (s := s) (w := w) (o := o) (n := n) t
   have shd : ∀ x, Zs x (Ct G f s w o n t) -> Fn prog eV.f [x] (shr (Ct G f s w o n t) (X.fm G f s w o n)) := by
    intro x hx
    have := n7 (l := Ct G f s w o n t) hx (by rw [bp]; omega) (fun i hi => by
     rw [bp] at hi
     have := bK (yp G f s w o n t) hi
     rw [List.getD_eq_getElem?_getD, this]
     exact nn i hi) (by rw [sj, mt]; exact t2) (by rw [sj, mt]; omega)
    rwa [sj, mt] at this
   have inner : ∀ (p v : Nat) (v' : Int) (l : V), p + v = n -> v' = v -> Zs l ((Ct G f s w o n t).take v) -> Comes bX.K bX.f bX.s2 ⟨[v', (t : Int)], [], [hm G F S W, O, .int 0, .int (X.fm G f s w o n), Y, Z, l, yo G f s w o n t]⟩ (.list [yo G f s w o n o.length, .int 0]) := by
    intro p
    induction p with
    | zero =>
     intro v v' l hp hv hz
     have : v = n := by omega
     subst hv this
     rw [eK] at hz
     refine Comes.step aa bX.p6 [shr (Ct G f s w o v t) (X.fm G f s w o v)] ?_ nx
     simp only [HM, FT, IB, ag, E.b, E.i, E.v, Env.ext, aO]; rw [m1, lf, sl]
     exact ⟨by omega, shd l hz, by omega, by omega⟩
    | succ p ihp =>
     intro v v' l hp hv hz
     subst hv
     have hvn : v < n := by omega
     have va := ry.get (bK _ hvn)
     have vb := rz.get (bK _ hvn)
     have ll := hz.len
     rw [List.length_take, bp, Nat.min_eq_left (by omega)] at ll
     have one := iH (g := yp G f s w o n t) hvn nn
     rw [mt] at one
     have n0 := nn v hvn
     have e : FW G f s w o n t v * BT G s w o n t v = yp G f s w o n t v := rfl
     have hz2 := hz.snoc (yp G f s w o n t v)
     rw [<- ff (bK _ hvn)] at hz2
     refine Comes.step aa bX.p5 [] ?_ ?_
     ·simp only [HM, FT, IB, ag, E.b, E.i, E.v, Env.ext, aO]; rw [m1, lf, yl, zl, ryl, rzl, va, vb, ll, e]; omega
     ·simp only [Sub.ev, E.v, E.i, Env.ext, aO]
      rw [va, vb, e]
      exact ihp (v + 1) ((v : Int) + 1) _ (by omega) (by omega) hz2
   have i0 := inner n 0 0 .nil (by omega) rfl rfl
   refine Comes.step aa bX.p3 [] ?_ i0
   simp only [HM, FT, IB, ag, E.b, E.i, E.v, Env.ext, aO]; rw [lo]; omega
 refine Fn.of (C := bX.K) bX.b (Comes.step aa bX.p2 [.int 0, .int (X.fm G f s w o n), Y, Z] ?_ (loop o.length 0 0 (by omega) rfl))
 simp only [HM, FT, IB, ag, E.b, E.i, E.v, Env.ext, aO]
 exact ⟨zP h, jQ h, h0, y2, z2⟩
end
end X
namespace X
open Go Go.a9 Go.Sym
theorem yD (a : V) (h : a.len <= 1000) : Fn prog m6.f [a, a] (.bool true) := by
 obtain ⟨m, hm⟩ : ∃ m : Nat, a.len = m := ⟨a.bx.length, rfl⟩
 rw [hm] at h
 have loop : ∀ (t i : Nat) (i' : Int), t + i = m -> i' = i -> Comes m6.K m6.f m6.s1 ⟨[i'], [], [a, a]⟩ (.bool true) := by
  intro t
  induction t with
  | zero =>
   intro i i' ht hi
   subst hi
   refine Comes.last aa m6.p4 [] ?_ rfl
   simp only [HM, FT, IB, ag, E.b, E.i, E.v, Env.ext, aO]; rw [hm]; omega
  | succ t ih =>
   intro i i' ht hi
   subst hi
   refine Comes.step aa m6.p3 [] ?_ (ih (i + 1) ((i : Int) + 1) (by omega) (by omega))
   simp only [HM, FT, IB, ag, E.b, E.i, E.v, Env.ext, aO]; rw [hm]; omega
 refine Fn.of (C := m6.K) m6.b (Comes.step aa m6.p1 [] ?_ (loop m 0 0 (by omega) rfl))
 simp only [HM, FT, IB, ag, E.b, E.i, E.v, Env.ext, aO]
theorem qh (a : V) (h : a.len <= 1000) (h2 : ∀ i : Nat, i < a.bx.length -> (a.get (i : Int)).len <= 1000) : Fn prog fG.f [a, a] (.bool true) := by
 obtain ⟨m, hm⟩ : ∃ m : Nat, a.len = m := ⟨a.bx.length, rfl⟩
 have hme : a.bx.length = m := by have : (a.bx.length : Int) = m := hm; omega
 rw [hm] at h
 have loop : ∀ (t i : Nat) (i' : Int), t + i = m -> i' = i -> Comes fG.K fG.f fG.s1 ⟨[i'], [], [a, a]⟩ (.bool true) := by
  intro t
  induction t with
  | zero =>
   intro i i' ht hi
   subst hi
   refine Comes.last aa fG.p4 [] ?_ rfl
   simp only [HM, FT, IB, ag, E.b, E.i, E.v, Env.ext, aO]; rw [hm]; omega
  | succ t ih =>
   intro i i' ht hi
   subst hi
   have q := yD (a.get (i : Int)) (h2 i (by omega))
   refine Comes.step aa fG.p3 [.bool true] ?_ (ih (i + 1) ((i : Int) + 1) (by omega) (by omega))
   simp only [HM, FT, IB, ag, E.b, E.i, E.v, Env.ext, aO]; rw [hm]; exact ⟨by omega, by omega, by omega, q, by omega⟩
 refine Fn.of (C := fG.K) fG.b (Comes.step aa fG.p1 [] ?_ (loop m 0 0 (by omega) rfl))
 simp only [HM, FT, IB, ag, E.b, E.i, E.v, Env.ext, aO]
section
variable {G : Int} {f : List Int} {s w : List (List Int)} {o : List Int} {n k : Nat} {F S W O : V}
theorem n9 (T : Nat) (g : Nat -> List Int) (d : Nat -> Int) (hT : T <= 1000) (hg : ∀ t, (g t).length <= 1000) : Fn prog fG.f [fQ ((List.range T).map fun t => shr (g t) (d t)), fQ ((List.range T).map fun t => shr (g t) (d t))] (.bool true) := by
 refine qh _ (by rw [gu]; simp; omega) fun i hi => ?_
 rw [jS] at hi
 rw [Av hi]
 simp only [List.length_map, List.length_range] at hi
 simp only [List.getElem_map, List.getElem_range, CA]
 have := hg i
 omega
structure DN (G : Int) (F S W O p e l g m j : V) : Prop where
 p1 : Fn prog iR.f [hm G F S W, O] (.list [p, e])
 p2 : Fn prog iP.f [hm G F S W, O] (.list [p, e])
 f1 : Fn prog bE.f [hm G F S W, O] (.list [l, g])
 f2 : Fn prog cG.f [hm G F S W, O] (.list [l, g])
 s1 : Fn prog bg.f [hm G F S W, O] (.list [m, j])
 s2 : Fn prog bX.f [hm G F S W, O] (.list [m, j])
 q1 : Fn prog fG.f [l, l] (.bool true)
 q2 : Fn prog fG.f [m, m] (.bool true)
theorem oo : Fn prog fG.f [.nil, .nil] (.bool true) := qh .nil (by simp [V.len, V.bx]) fun i hi => by simp [V.bx] at hi
theorem BG (M : HMod G F S W f s w) (hO : Zs O o) (hl : o.length <= 10) : ∃ p e l g m j, DN G F S W O p e l g m j := by
 by_cases c : bC G f s w o = 0
 ·obtain ⟨n, k, h⟩ := Ec M hO c
  have n4 := h.H.n4
  by_cases h0 : fm G f s w o n = 0
  ·exact ⟨_, _, _, _, _, _, xr h, wR h, vM h h0, vo h h0, vL h h0, vn h h0, oo, oo⟩
  ·exact ⟨_, _, _, _, _, _, xr h, wR h, yQ h h0, yH h h0, yP h h0, yF h h0, n9 _ _ _ (by omega) (fun t => by rw [bp]; omega), n9 _ _ _ (by omega) (fun t => by rw [bp]; omega)⟩
 ·exact ⟨_, _, _, _, _, _, AJ M hO hl c, Au M hO hl c, xu M hO hl c, wS M hO hl c, xq M hO hl c, wP M hO hl c, oo, oo⟩
theorem lD (M : HMod G F S W f s w) {O1 R : V} {o1 o2 : List Int} (h1 : Zs O1 o1) (hl1 : o1.length <= 10) (h2 : Zs R o2) {v0 v1 v2 v4 v5 r : V} {j : Int} (hj : 0 <= j) (hj3 : j < 3)
  (nx : Comes HiddenKnows.K HiddenKnows.f HiddenKnows.s1 ⟨[j + 1], [], [v0, v1, v2, R, v4, v5]⟩ r) :
  Comes HiddenKnows.K HiddenKnows.f HiddenKnows.s2 ⟨[0, G, j], [], [v0, v1, v2, R, v4, v5, O1, F, S, W]⟩ r := by
 obtain ⟨c1, c2⟩ := Eb h2
 have n2 : Comes HiddenKnows.K HiddenKnows.f HiddenKnows.s2 ⟨[2, G, j], [], [v0, v1, v2, R, v4, v5, O1, F, S, W]⟩ r := by
  refine Comes.step aa HiddenKnows.EO [] ?_ nx
  simp only [HM, FT, IB, ag, E.b, E.i, E.v, Env.ext, aO]; omega
 have n1 : Comes HiddenKnows.K HiddenKnows.f HiddenKnows.s2 ⟨[1, G, j], [], [v0, v1, v2, R, v4, v5, O1, F, S, W]⟩ r := by
  obtain ⟨p, e, l, g, m, jj, K⟩ := BG M c1 c2
  refine Comes.step aa HiddenKnows.EP [.list [p, e], .list [p, e], .list [l, g], .list [l, g], .list [m, jj], .list [m, jj], .bool true, .bool true] ?_ n2
  simp only [HM, FT, IB, ag, E.b, E.i, E.v, Env.ext, aO]
  exact ⟨by omega, by omega, K.p1, K.p2, K.f1, K.f2, K.s1, K.s2, K.q1, K.q2⟩
 obtain ⟨p, e, l, g, m, jj, K⟩ := BG M h1 hl1
 refine Comes.step aa HiddenKnows.EB [.list [p, e], .list [p, e], .list [l, g], .list [l, g], .list [m, jj], .list [m, jj], .bool true, .bool true] ?_ n1
 simp only [HM, FT, IB, ag, E.b, E.i, E.v, Env.ext, aO]
 exact ⟨by omega, K.p1, K.p2, K.f1, K.f2, K.s1, K.s2, K.q1, K.q2⟩
theorem qa (wk : Sym.Fn prog 10 [] (.bool true)) {D : V} {g n k : Nat} {l e : List Nat} {L S : V} (X : Dr D g n k l e L S) {B : V} {u j a : Nat} {N : Int} (Y : Bd B u j a N) {G : Int} {F S3 W : V} {f : List Int} {s w : List (List Int)} (h1 : Zs F f) (h2 : cT S3 s) (h3 : cT W w) {R : V} {o : List Int} (hR : Zs R o) :
  Fn prog HiddenKnows.f [D, B, hm G F S3 W, R] (.bool true) := by
 obtain ⟨x0, x1, x2, H, c⟩ := xM X Y (G := G) h1 h2 h3
 obtain ⟨G0, F0, S0, W0, f0, s0, w0, M0, rfl⟩ := H x0 (by simp)
 obtain ⟨G1, F1, S1, W1, f1, s1, w1, M1, rfl⟩ := H x1 (by simp)
 obtain ⟨G2, F2, S2, W2, f2, s2, w2, M2, rfl⟩ := H x2 (by simp)
 obtain ⟨O1, o1, y1, y2, y3, y4, c1⟩ := tA X
 have hD := X.eq
 have hB := Y.eq
 rw [hD] at c c1 ⊢
 rw [hB] at c ⊢
 have lR := hR.len
 have mR := De lR
 have mle : min o.length 10 <= o.length := by omega
 generalize hv : V.list [hm G0 F0 S0 W0, hm G1 F1 S1 W1, hm G2 F2 S2 W2] = v5 at *
 have e0 : v5.get 0 = hm G0 F0 S0 W0 := by rw [<- hv]; rfl
 have e1 : v5.get 1 = hm G1 F1 S1 W1 := by rw [<- hv]; rfl
 have e2 : v5.get 2 = hm G2 F2 S2 W2 := by rw [<- hv]; rfl
 have n3 : Comes HiddenKnows.K HiddenKnows.f HiddenKnows.s1 ⟨[3], [], [.list [.int g, .int n, .int k, L, S], .list [.int u, .int j, .int a, .int N], hm G F S3 W, R, .bool true, v5]⟩ (.bool true) := by
  refine Comes.last aa HiddenKnows.p5 [] ?_ rfl
  simp only [HM, FT, IB, ag, E.b, E.i, E.v, Env.ext, aO]; omega
 have n2 : Comes HiddenKnows.K HiddenKnows.f HiddenKnows.s1 ⟨[2], [], [.list [.int g, .int n, .int k, L, S], .list [.int u, .int j, .int a, .int N], hm G F S3 W, R, .bool true, v5]⟩ (.bool true) := by
  refine Comes.step aa HiddenKnows.p4 [O1] ?_ ?_
  ·simp only [HM, FT, IB, ag, E.b, E.i, E.v, Env.ext, aO]; rw [mR, lR]
   exact ⟨by omega, by omega, by omega, by omega, by omega, c1, by omega, by omega⟩
  ·simp only [Sub.ev, E.v, E.i, Env.ext, aO]
   rw [e2]
   exact lD M2 y1 (by omega) hR (j := 2) (by omega) (by omega) n3
 have n1 : Comes HiddenKnows.K HiddenKnows.f HiddenKnows.s1 ⟨[1], [], [.list [.int g, .int n, .int k, L, S], .list [.int u, .int j, .int a, .int N], hm G F S3 W, R, .bool true, v5]⟩ (.bool true) := by
  refine Comes.step aa HiddenKnows.p3 [O1] ?_ ?_
  ·simp only [HM, FT, IB, ag, E.b, E.i, E.v, Env.ext, aO]; rw [mR, lR]
   exact ⟨by omega, by omega, by omega, by omega, c1, by omega, by omega⟩
  ·simp only [Sub.ev, E.v, E.i, Env.ext, aO]
   rw [e1]
   exact lD M1 y1 (by omega) hR (j := 1) (by omega) (by omega) n2
 have n0 : Comes HiddenKnows.K HiddenKnows.f HiddenKnows.s1 ⟨[0], [], [.list [.int g, .int n, .int k, L, S], .list [.int u, .int j, .int a, .int N], hm G F S3 W, R, .bool true, v5]⟩ (.bool true) := by
  refine Comes.step aa HiddenKnows.p2 [O1] ?_ ?_
  ·simp only [HM, FT, IB, ag, E.b, E.i, E.v, Env.ext, aO]; rw [mR, lR]
   exact ⟨by omega, by omega, by omega, c1, by omega, by omega⟩
  ·simp only [Sub.ev, E.v, E.i, Env.ext, aO]
   rw [e0]
   exact lD M0 y1 (by omega) hR (j := 0) (by omega) (by omega) n1
 refine Fn.of (C := HiddenKnows.K) HiddenKnows.b (Comes.step aa HiddenKnows.p1 [.bool true, v5] ?_ n0)
 simp only [HM, FT, IB, ag, E.b, E.i, E.v, Env.ext, aO]
 exact ⟨wk, c⟩
end
end X
