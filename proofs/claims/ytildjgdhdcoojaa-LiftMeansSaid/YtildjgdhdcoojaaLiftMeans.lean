/- LiftMeans: for every draft and every evidence the numbers of ones add up to 1 and have the mean that is known and told by Next. No conditions. -/
import Derived.Test.YtildjgdhdcoojaaZ13
import Derived.Test.YtildjgdhdcoojaaRows
import Derived.WalkKit
import Derived.ProofKit
import Derived.OpenShut
import Derived.ShutString
import Derived.ChangeOld
import Derived.Below
namespace Go.Proofs.Ytildjgdhdcoojaa.liftMeans
open Go.ChangeShapes Go.WideShapes Go.ChangeAt Go.RowKit
set_option linter.unusedVariables false

theorem own : ownKnob Try.prog.godebug = none := by kernel_rfl
theorem laidOut : laidOutB Try.prog = true := by kernel_rfl

set_option maxRecDepth 100000 in
open Go.Sym (WT WTs V Ints) in
theorem ints_of {d : Nat} {x : V} (h : WT Try.prog (d + 2) 22 x) : ∃ l : List Nat, Ints x l ∧ (∀ y ∈ l, y ≤ 255) ∧ l.length ≤ Go.maxLen := by
  rcases WT.slice Try.underlying22 h with rfl | ⟨l, rfl, hl, hy⟩
  · exact ⟨[], rfl, by simp, by simp⟩
  · clear h
    induction l with
    | nil => exact ⟨[], rfl, by simp, by simp⟩
    | cons a l ih =>
      obtain ⟨k, k1, k2, k3⟩ := ih (by simp at hl; omega) (fun y hm => hy y (by simp [hm]))
      obtain ⟨n, rfl, h1, h2⟩ := WT.intv Try.underlying5 (hy a (by simp))
      have h1' : (0 : Int) ≤ n := h1
      have h2' : n ≤ 255 := h2
      obtain ⟨m, rfl⟩ : ∃ m : Nat, n = m := ⟨n.toNat, by omega⟩
      refine ⟨m :: k, ?_, ?_, ?_⟩
      · unfold Ints at *
        simp only [V.els, List.map_cons] at *
        rw [k1]; rfl
      · intro y hy'
        rcases List.mem_cons.1 hy' with rfl | q
        · omega
        · exact k2 y q
      · have : l.length = k.length := by
          unfold Ints at k1
          simp only [V.els] at k1
          rw [k1]; simp
        simp only [List.length_cons] at *
        omega
set_option maxRecDepth 100000 in
open Go.Sym (WT WTs V) in
theorem law_true (xs : List V) (h : WTs Try.prog Try.f6.params.toList xs) : Go.Sym.Fn Try.prog 6 xs (.bool true) := by
  have hp : Try.f6.params.toList = [24, 45] := by kernel_rfl
  rw [hp] at h
  cases h with
  | cons h0 h =>
  cases h with
  | cons h1 h =>
  cases h
  obtain ⟨xs, rfl, l0, f0⟩ := WT.struct Try.underlying24 h0
  obtain ⟨ys, rfl, l1, f1⟩ := WT.struct Try.underlying45 h1
  match xs, l0 with
  | [a, b, c, d, e], _ =>
  match ys, l1 with
  | [u, v, w], _ =>
  obtain ⟨a, rfl, a1, a2⟩ := WT.intv Try.underlying5 (f0 0 _ _ rfl rfl)
  obtain ⟨b, rfl, b1, b2⟩ := WT.intv Try.underlying5 (f0 1 _ _ rfl rfl)
  obtain ⟨c, rfl, c1, c2⟩ := WT.intv Try.underlying5 (f0 2 _ _ rfl rfl)
  obtain ⟨d, rfl, d1, d2⟩ := WT.intv Try.underlying5 (f0 3 _ _ rfl rfl)
  obtain ⟨l, i1, i2, i3⟩ := ints_of (f0 4 _ _ rfl rfl)
  obtain ⟨u, rfl, _, _⟩ := WT.intv Try.underlying3 (f1 0 _ _ rfl rfl)
  obtain ⟨v, rfl, _, _⟩ := WT.intv Try.underlying3 (f1 1 _ _ rfl rfl)
  obtain ⟨w, rfl, _, _⟩ := WT.intv Try.underlying3 (f1 2 _ _ rfl rfl)
  have a1 : (0 : Int) ≤ a := a1
  have a2 : a ≤ 255 := a2
  have b1 : (0 : Int) ≤ b := b1
  have b2 : b ≤ 255 := b2
  have c1 : (0 : Int) ≤ c := c1
  have c2 : c ≤ 255 := c2
  have d1 : (0 : Int) ≤ d := d1
  have d2 : d ≤ 255 := d2
  obtain ⟨a, rfl⟩ : ∃ m : Nat, a = m := ⟨a.toNat, by omega⟩
  obtain ⟨b, rfl⟩ : ∃ m : Nat, b = m := ⟨b.toNat, by omega⟩
  obtain ⟨c, rfl⟩ : ∃ m : Nat, c = m := ⟨c.toNat, by omega⟩
  obtain ⟨d, rfl⟩ : ∃ m : Nat, d = m := ⟨d.toNat, by omega⟩
  have hm : Go.maxLen ≤ 9223372036854775807 := by decide
  exact X.LiftMeans_spec (by omega) (by omega) (by omega) (by omega) i1 i2 (by omega) u v w

set_option maxRecDepth 100000 in
theorem lifted (os : Os) (started : os.Started) (H : Type) (enc : TypeId × Value → H) :
    ReturnsInHanded {} Try.checked os 6 .any (Rows.liftMeansSpec.pre6 enc Try.prog Try.f6 Rows.liftMeansRow.domain false) (Rows.liftMeansSpec.post enc Try.prog Try.f6 false true false false) := by
  refine returnsInHanded_of_change (C := Try.checked) own started (by kernel_rfl) Try.func6
    (ChangeSpec.witness6 (enc := enc) (C := Try.checked) false ⟨#[], #[.agg #[.int .u8 0, .int .u8 0, .int .u8 0, .int .u8 0, .slice none 0 0], .agg #[.int .i64 0, .int .i64 0, .int .i64 0]], []⟩ 8 (by kernel_rfl) (by kernel_rfl) (by kernel_rfl) (by kernel_rfl)) ?_
  intro W base args ds gs before hval0 hW hcnd _
  have hval : ∀ (j : Nat) t v, Try.f6.params[j]? = some t → args[j]? = some v → Value.okWide Try.prog W .any base t v := hval0
  have hW' := hW
  obtain ⟨p, q, hA0, hV, rfl, hfz, hnd⟩ := hW
  have hA : DataW.TrodAll enc Try.prog W 0 (fun _ => true) true Try.f6.params.toList args.toList ds p := hA0
  have hcalls := Go.Sym.law_calls (f := 6) (fn := Try.f6) Try.func6 law_true (by kernel_rfl) (by kernel_rfl) (args := args) (fun j t v h k => hval j t v h k) hA
  rw [Try.params6] at hA hval
  obtain ⟨v0, vs0, d0, ds0, p0, q0, hargs, rfl, rfl, h0, r0⟩ := trodAll_cons hA
  obtain ⟨v1, vs1, d1, ds1, p1, q1, rfl, rfl, rfl, h1, r1⟩ := trodAll_cons r0
  obtain ⟨rfl, rfl, rfl⟩ := trodAll_nil r1
  obtain rfl : args = #[v0, v1] := by cases args; simp_all
  obtain ⟨rfl, rfl⟩ := trodVars_none hV
  have k0 := h0
  have lt0 : ∀ x ∈ p0, x.block < W.heap.size := by obtain ⟨m, hm⟩ := k0; exact DataW.trod_lt m _ _ _ hm
  have k1 := h1
  have lt1 : ∀ x ∈ p1, x.block < W.heap.size := by obtain ⟨m, hm⟩ := k1; exact DataW.trod_lt m _ _ _ hm
  clear hA0 hval0
  refine hcalls.mono fun e W' ⟨he, bel⟩ => ?_
  subst he
  exact ⟨_, rfl, _, _, _, [], _, [], hW', trodAll_mk1 (shut_bool Try.underlying4 _), (trodAll_cons_mk (Below.trod laidOut (by kernel_rfl) (of_decide_eq_true (by kernel_rfl)) k0 bel lt0) (trodAll_cons_mk (Below.trod laidOut (by kernel_rfl) (of_decide_eq_true (by kernel_rfl)) k1 bel lt1) trodAll_mk0)), rfl, bel.frame _, fun h => by cases h⟩

theorem over : Rows.liftMeansRow.holds Try.pinned (OpenSpec.ofChange Rows.liftMeansSpec) :=
  OpenClaim.holds_of_wide 6 Try.f6 rfl rfl rfl rfl rfl rfl rfl ⟨rfl, rfl, rfl, rfl, rfl⟩ rfl rfl rfl rfl rfl (by kernel_rfl) Try.func6 (by kernel_rfl)
    (of_decide_eq_true (by kernel_rfl)) (by unfold Func.isWrapper; first | (rw [if_pos (by decide +kernel)]; kernel_rfl) | (rw [if_neg (by decide +kernel)]; exact ⟨rfl, rfl⟩))
    (fun os started H enc _ => lifted os started H enc)

/-- ████ THE STATEMENT ████ -/
theorem proved : Rows.LiftMeansSaid := over
#print axioms proved
end Go.Proofs.Ytildjgdhdcoojaa.liftMeans
