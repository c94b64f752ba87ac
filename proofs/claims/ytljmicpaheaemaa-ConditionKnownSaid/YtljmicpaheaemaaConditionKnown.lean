/- Proved: the statement ConditionKnownSaid of this seat: the law function ConditionKnown, called as the row says, returns true (a closed run, carried out in the kernel by an abstract machine that is proved sound). Conditions: none beyond those of the given row. -/
import Derived.Test.YtljmicpaheaemaaRows
import Derived.WalkKit
import Derived.ProofKit
import Derived.OpenShut
import Derived.Test.YtljmicpaheaemaaAbsPost
import Derived.Test.YtljmicpaheaemaaConditionKnownRun0
import Derived.Test.YtljmicpaheaemaaConditionKnownRun1
import Derived.Test.YtljmicpaheaemaaConditionKnownRun2
import Derived.Test.YtljmicpaheaemaaConditionKnownRun3
import Derived.ShutString
namespace Go.Proofs.Ytljmicpaheaemaa.conditionKnown
open Go.ChangeShapes Go.WideShapes Go.ChangeAt Go.RowKit
open Go.ChangeMaps (open_string shut_string)
set_option linter.unusedVariables false      -- a walk need not use every 'w<i>' (that an integer argument fits its kind)

theorem own : ownKnob Try.prog.godebug = none := by kernel_rfl

/-! ### The walk: the abstract machine's run, piece by piece, in the kernel -/
theorem plain0 : (Try.prog.funcs.toList.all fun fn => !(fn.name == "runtime.NumGoroutine")) = true := by kernel_rfl
theorem progOk : Go.Abs.ProgOk Try.prog := ⟨by kernel_rfl, fun f fn e => by
  have h := plain0
  simp only [List.all_eq_true, Bool.not_eq_true'] at h
  exact h fn (Array.mem_toList_iff.2 (Array.mem_of_getElem? e))⟩
theorem walk (w : World) : Calls Try.prog 4 #[] w fun e w' => e = .returned (.bool true) ∧ Below w.heap.size w w' := by
  obtain ⟨m, h1, h2⟩ := Go.Abs.leads_last progOk conditionKnownRun.last
  refine Go.Abs.calls_true (m0 := conditionKnownRun.s0) (by kernel_rfl) ?_ h2 w
  refine (Go.Abs.leads_piece progOk conditionKnownRun.c0).trans ?_
  refine (Go.Abs.leads_piece progOk conditionKnownRun.c1).trans ?_
  refine (Go.Abs.leads_piece progOk conditionKnownRun.c2).trans ?_
  refine (Go.Abs.leads_piece progOk conditionKnownRun.c3).trans ?_
  refine (Go.Abs.leads_piece progOk conditionKnownRun.c4).trans ?_
  refine (Go.Abs.leads_piece progOk conditionKnownRun.c5).trans ?_
  refine (Go.Abs.leads_piece progOk conditionKnownRun.c6).trans ?_
  exact h1

/-! ### THE ROW's STEP: WRITTEN OUT: LEAVE IT -/
set_option maxRecDepth 100000 in
theorem lifted (os : Os) (started : os.Started) (H : Type) (enc : TypeId × Value → H) :
    ReturnsInHanded {} Try.checked os 4 .any (Rows.conditionKnownSpec.pre6 enc Try.prog Try.f4 Rows.conditionKnownRow.domain false) (Rows.conditionKnownSpec.post enc Try.prog Try.f4 false true false false) := by
  refine returnsInHanded_of_change (C := Try.checked) own started (by kernel_rfl) Try.func4
    (ChangeSpec.witness6 (enc := enc) (C := Try.checked) false ⟨#[], #[], []⟩ 8 (by kernel_rfl) (by kernel_rfl) (by kernel_rfl) (by kernel_rfl)) ?_
  intro W base args ds gs before hval0 hW hcnd _
  have hval : ∀ (j : Nat) t v, Try.f4.params[j]? = some t → args[j]? = some v → Value.okWide Try.prog W .any base t v := hval0
  have hW' := hW
  obtain ⟨p, q, hA0, hV, rfl, hfz, hnd⟩ := hW
  have hA : DataW.TrodAll enc Try.prog W 0 (fun _ => true) true Try.f4.params.toList args.toList ds p := hA0
  rw [Try.params4] at hA hval
  obtain ⟨rfl, rfl, rfl⟩ := trodAll_none hA
  obtain ⟨rfl, rfl⟩ := trodVars_none hV
  clear hA0 hval0
  simp only [List.append_nil] at hW'
  refine (walk  W).mono fun e W' ⟨he, hg⟩ => ?_
  subst he
  exact ⟨_, rfl, Go.Abs.post_of_below (pa := []) (pv := []) hW' (fun _ _ _ => (trodAll_cons_mk (shut_bool Try.underlying4 _) trodAll_mk0)) (fun sp _ => rfl) (fun _ _ => rfl) rfl
    hg (ok_one (by kernel_rfl) rfl (okWide_bool_mk Try.underlying4 _))⟩

theorem over : Rows.conditionKnownRow.holds Try.pinned (OpenSpec.ofChange Rows.conditionKnownSpec) :=
  OpenClaim.holds_of_wide 4 Try.f4 rfl rfl rfl rfl rfl rfl rfl ⟨rfl, rfl, rfl, rfl, rfl⟩ rfl rfl rfl rfl rfl (by kernel_rfl) Try.func4 (by kernel_rfl)
    (of_decide_eq_true (by kernel_rfl)) (by unfold Func.isWrapper; first | (rw [if_pos (by decide +kernel)]; kernel_rfl) | (rw [if_neg (by decide +kernel)]; exact ⟨rfl, rfl⟩))
    (fun os started H enc _ => lifted os started H enc)

/-- ████ THE STATEMENT ████ -/
theorem proved : Rows.ConditionKnownSaid :=
  over
#print axioms proved
end Go.Proofs.Ytljmicpaheaemaa.conditionKnown
