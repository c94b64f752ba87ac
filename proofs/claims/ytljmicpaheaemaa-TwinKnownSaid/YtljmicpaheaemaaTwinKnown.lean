/- Proved: the statement TwinKnownSaid of this seat: the law function TwinKnown, called as the row says, returns true (a closed run, carried out in the kernel by an abstract machine that is proved sound). Conditions: none beyond those of the given row. -/
import Derived.Test.YtljmicpaheaemaaRows
import Derived.WalkKit
import Derived.ProofKit
import Derived.OpenShut
import Derived.Test.YtljmicpaheaemaaAbsPost
import Derived.Test.YtljmicpaheaemaaTwinKnownRun0
import Derived.Test.YtljmicpaheaemaaTwinKnownRun1
import Derived.Test.YtljmicpaheaemaaTwinKnownRun2
import Derived.Test.YtljmicpaheaemaaTwinKnownRun3
import Derived.Test.YtljmicpaheaemaaTwinKnownRun4
import Derived.Test.YtljmicpaheaemaaTwinKnownRun5
import Derived.Test.YtljmicpaheaemaaTwinKnownRun6
import Derived.Test.YtljmicpaheaemaaTwinKnownRun7
namespace Go.Proofs.Ytljmicpaheaemaa.twinKnown
open Go.ChangeShapes Go.WideShapes Go.ChangeAt Go.RowKit
set_option linter.unusedVariables false      -- a walk need not use every 'w<i>' (that an integer argument fits its kind)

theorem own : ownKnob Try.prog.godebug = none := by kernel_rfl

/-! ### The walk: the abstract machine's run, piece by piece, in the kernel -/
theorem plain0 : (Try.prog.funcs.toList.all fun fn => !(fn.name == "runtime.NumGoroutine")) = true := by kernel_rfl
theorem progOk : Go.Abs.ProgOk Try.prog := ⟨by kernel_rfl, fun f fn e => by
  have h := plain0
  simp only [List.all_eq_true, Bool.not_eq_true'] at h
  exact h fn (Array.mem_toList_iff.2 (Array.mem_of_getElem? e))⟩
theorem walk (w : World) : Calls Try.prog 6 #[] w fun e w' => e = .returned (.bool true) ∧ Below w.heap.size w w' := by
  obtain ⟨m, h1, h2⟩ := Go.Abs.leads_last progOk twinKnownRun.last
  refine Go.Abs.calls_true (m0 := twinKnownRun.s0) (by kernel_rfl) ?_ h2 w
  refine (Go.Abs.leads_piece progOk twinKnownRun.c0).trans ?_
  refine (Go.Abs.leads_piece progOk twinKnownRun.c1).trans ?_
  refine (Go.Abs.leads_piece progOk twinKnownRun.c2).trans ?_
  refine (Go.Abs.leads_piece progOk twinKnownRun.c3).trans ?_
  refine (Go.Abs.leads_piece progOk twinKnownRun.c4).trans ?_
  refine (Go.Abs.leads_piece progOk twinKnownRun.c5).trans ?_
  refine (Go.Abs.leads_piece progOk twinKnownRun.c6).trans ?_
  refine (Go.Abs.leads_piece progOk twinKnownRun.c7).trans ?_
  refine (Go.Abs.leads_piece progOk twinKnownRun.c8).trans ?_
  refine (Go.Abs.leads_piece progOk twinKnownRun.c9).trans ?_
  refine (Go.Abs.leads_piece progOk twinKnownRun.c10).trans ?_
  refine (Go.Abs.leads_piece progOk twinKnownRun.c11).trans ?_
  refine (Go.Abs.leads_piece progOk twinKnownRun.c12).trans ?_
  refine (Go.Abs.leads_piece progOk twinKnownRun.c13).trans ?_
  refine (Go.Abs.leads_piece progOk twinKnownRun.c14).trans ?_
  refine (Go.Abs.leads_piece progOk twinKnownRun.c15).trans ?_
  refine (Go.Abs.leads_piece progOk twinKnownRun.c16).trans ?_
  refine (Go.Abs.leads_piece progOk twinKnownRun.c17).trans ?_
  refine (Go.Abs.leads_piece progOk twinKnownRun.c18).trans ?_
  refine (Go.Abs.leads_piece progOk twinKnownRun.c19).trans ?_
  refine (Go.Abs.leads_piece progOk twinKnownRun.c20).trans ?_
  refine (Go.Abs.leads_piece progOk twinKnownRun.c21).trans ?_
  exact h1

/-! ### THE ROW's STEP: WRITTEN OUT: LEAVE IT -/
set_option maxRecDepth 100000 in
theorem lifted (os : Os) (started : os.Started) (H : Type) (enc : TypeId × Value → H) :
    ReturnsInHanded {} Try.checked os 6 .any (Rows.twinKnownSpec.pre6 enc Try.prog Try.f6 Rows.twinKnownRow.domain false) (Rows.twinKnownSpec.post enc Try.prog Try.f6 false true false false) := by
  refine returnsInHanded_of_change (C := Try.checked) own started (by kernel_rfl) Try.func6
    (ChangeSpec.witness6 (enc := enc) (C := Try.checked) false ⟨#[], #[], []⟩ 8 (by kernel_rfl) (by kernel_rfl) (by kernel_rfl) (by kernel_rfl)) ?_
  intro W base args ds gs before hval0 hW hcnd _
  have hval : ∀ (j : Nat) t v, Try.f6.params[j]? = some t → args[j]? = some v → Value.okWide Try.prog W .any base t v := hval0
  have hW' := hW
  obtain ⟨p, q, hA0, hV, rfl, hfz, hnd⟩ := hW
  have hA : DataW.TrodAll enc Try.prog W 0 (fun _ => true) true Try.f6.params.toList args.toList ds p := hA0
  rw [Try.params6] at hA hval
  obtain ⟨rfl, rfl, rfl⟩ := trodAll_none hA
  obtain ⟨rfl, rfl⟩ := trodVars_none hV
  clear hA0 hval0
  simp only [List.append_nil] at hW'
  refine (walk  W).mono fun e W' ⟨he, hg⟩ => ?_
  subst he
  exact ⟨_, rfl, Go.Abs.post_of_below (pa := []) (pv := []) hW' (fun _ _ _ => (trodAll_cons_mk (shut_bool Try.underlying4 _) trodAll_mk0)) (fun sp _ => rfl) (fun _ _ => rfl) rfl
    hg (ok_one (by kernel_rfl) rfl (okWide_bool_mk Try.underlying4 _))⟩

theorem over : Rows.twinKnownRow.holds Try.pinned (OpenSpec.ofChange Rows.twinKnownSpec) :=
  OpenClaim.holds_of_wide 6 Try.f6 rfl rfl rfl rfl rfl rfl rfl ⟨rfl, rfl, rfl, rfl, rfl⟩ rfl rfl rfl rfl rfl (by kernel_rfl) Try.func6 (by kernel_rfl)
    (of_decide_eq_true (by kernel_rfl)) (by unfold Func.isWrapper; first | (rw [if_pos (by decide +kernel)]; kernel_rfl) | (rw [if_neg (by decide +kernel)]; exact ⟨rfl, rfl⟩))
    (fun os started H enc _ => lifted os started H enc)

/-- ████ THE STATEMENT ████ -/
theorem proved : Rows.TwinKnownSaid :=
  over
#print axioms proved
end Go.Proofs.Ytljmicpaheaemaa.twinKnown
