/- Proved: the statement ActKnownSaid of this seat: the law function ActKnown, called as the row says, returns true (a closed run, carried out in the kernel by an abstract machine that is proved sound). Conditions: none beyond those of the given row. -/
import Derived.Test.YtljmicpaheaemaaRows
import Derived.WalkKit
import Derived.ProofKit
import Derived.OpenShut
import Derived.Test.YtljmicpaheaemaaAbsPost
import Derived.Test.YtljmicpaheaemaaActKnownRun0
import Derived.Test.YtljmicpaheaemaaActKnownRun1
import Derived.Test.YtljmicpaheaemaaActKnownRun2
import Derived.Test.YtljmicpaheaemaaActKnownRun3
import Derived.Test.YtljmicpaheaemaaActKnownRun4
import Derived.Test.YtljmicpaheaemaaActKnownRun5
import Derived.Test.YtljmicpaheaemaaActKnownRun6
import Derived.Test.YtljmicpaheaemaaActKnownRun7
import Derived.ShutString
namespace Go.Proofs.Ytljmicpaheaemaa.actKnown
open Go.ChangeShapes Go.WideShapes Go.ChangeAt Go.RowKit
open Go.ChangeMaps (open_string shut_string)
set_option linter.unusedVariables false      -- a walk need not use every 'w<i>' (that an integer argument fits its kind)

theorem own : ownKnob Try.prog.godebug = none := by kernel_rfl

/-! ### The walk: the abstract machine's run, piece by piece, in the kernel -/
theorem plain0 : (Try.prog.funcs.toList.all fun fn => !(fn.name == "runtime.NumGoroutine")) = true := by kernel_rfl
theorem progOk : Go.Abs.ProgOk Try.prog := ⟨by kernel_rfl, fun f fn e => by
  have h := plain0
  simp only [List.all_eq_true, Bool.not_eq_true'] at h
  exact h fn (Array.mem_toList_iff.2 (Array.mem_of_getElem? e))⟩
theorem walk (w : World) : Calls Try.prog 7 #[] w fun e w' => e = .returned (.bool true) ∧ Below w.heap.size w w' := by
  obtain ⟨m, h1, h2⟩ := Go.Abs.leads_last progOk actKnownRun.last
  refine Go.Abs.calls_true (m0 := actKnownRun.s0) (by kernel_rfl) ?_ h2 w
  refine (Go.Abs.leads_piece progOk actKnownRun.c0).trans ?_
  refine (Go.Abs.leads_piece progOk actKnownRun.c1).trans ?_
  refine (Go.Abs.leads_piece progOk actKnownRun.c2).trans ?_
  refine (Go.Abs.leads_piece progOk actKnownRun.c3).trans ?_
  refine (Go.Abs.leads_piece progOk actKnownRun.c4).trans ?_
  refine (Go.Abs.leads_piece progOk actKnownRun.c5).trans ?_
  refine (Go.Abs.leads_piece progOk actKnownRun.c6).trans ?_
  refine (Go.Abs.leads_piece progOk actKnownRun.c7).trans ?_
  refine (Go.Abs.leads_piece progOk actKnownRun.c8).trans ?_
  refine (Go.Abs.leads_piece progOk actKnownRun.c9).trans ?_
  refine (Go.Abs.leads_piece progOk actKnownRun.c10).trans ?_
  refine (Go.Abs.leads_piece progOk actKnownRun.c11).trans ?_
  refine (Go.Abs.leads_piece progOk actKnownRun.c12).trans ?_
  refine (Go.Abs.leads_piece progOk actKnownRun.c13).trans ?_
  refine (Go.Abs.leads_piece progOk actKnownRun.c14).trans ?_
  exact h1

/-! ### THE ROW's STEP: WRITTEN OUT: LEAVE IT -/
set_option maxRecDepth 100000 in
theorem lifted (os : Os) (started : os.Started) (H : Type) (enc : TypeId × Value → H) :
    ReturnsInHanded {} Try.checked os 7 .any (Rows.actKnownSpec.pre6 enc Try.prog Try.f7 Rows.actKnownRow.domain false) (Rows.actKnownSpec.post enc Try.prog Try.f7 false true false false) := by
  refine returnsInHanded_of_change (C := Try.checked) own started (by kernel_rfl) Try.func7
    (ChangeSpec.witness6 (enc := enc) (C := Try.checked) false ⟨#[], #[], []⟩ 8 (by kernel_rfl) (by kernel_rfl) (by kernel_rfl) (by kernel_rfl)) ?_
  intro W base args ds gs before hval0 hW hcnd _
  have hval : ∀ (j : Nat) t v, Try.f7.params[j]? = some t → args[j]? = some v → Value.okWide Try.prog W .any base t v := hval0
  have hW' := hW
  obtain ⟨p, q, hA0, hV, rfl, hfz, hnd⟩ := hW
  have hA : DataW.TrodAll enc Try.prog W 0 (fun _ => true) true Try.f7.params.toList args.toList ds p := hA0
  rw [Try.params7] at hA hval
  obtain ⟨rfl, rfl, rfl⟩ := trodAll_none hA
  obtain ⟨rfl, rfl⟩ := trodVars_none hV
  clear hA0 hval0
  simp only [List.append_nil] at hW'
  refine (walk  W).mono fun e W' ⟨he, hg⟩ => ?_
  subst he
  exact ⟨_, rfl, Go.Abs.post_of_below (pa := []) (pv := []) hW' (fun _ _ _ => (trodAll_cons_mk (shut_bool Try.underlying4 _) trodAll_mk0)) (fun sp _ => rfl) (fun _ _ => rfl) rfl
    hg (ok_one (by kernel_rfl) rfl (okWide_bool_mk Try.underlying4 _))⟩

theorem over : Rows.actKnownRow.holds Try.pinned (OpenSpec.ofChange Rows.actKnownSpec) :=
  OpenClaim.holds_of_wide 7 Try.f7 rfl rfl rfl rfl rfl rfl rfl ⟨rfl, rfl, rfl, rfl, rfl⟩ rfl rfl rfl rfl rfl (by kernel_rfl) Try.func7 (by kernel_rfl)
    (of_decide_eq_true (by kernel_rfl)) (by unfold Func.isWrapper; first | (rw [if_pos (by decide +kernel)]; kernel_rfl) | (rw [if_neg (by decide +kernel)]; exact ⟨rfl, rfl⟩))
    (fun os started H enc _ => lifted os started H enc)

/-- ████ THE STATEMENT ████ -/
theorem proved : Rows.ActKnownSaid :=
  over
#print axioms proved
end Go.Proofs.Ytljmicpaheaemaa.actKnown
