/- HiddenKnown: the examples of the chapter, errors and limits: the closed law returns true (a run carried out in the kernel by an abstract machine that is proved sound); conditions: the package variable directions holds the two functions up and down, which the card ties to the text of the program. -/
import Derived.Test.YtbapeebnpnjaiaaDoorZ03
import Derived.Test.YtbapeebnpnjaiaaDoorZ05
import Derived.Test.YtbapeebnpnjaiaaDoorZ06
import Derived.Test.YtbapeebnpnjaiaaDoorZ07
import Derived.SevenTiedAt
namespace Go.Proofs.YtbapeebnpnjaiaaDoor.hiddenKnown
open Go.ChangeShapes Go.WideShapes Go.ChangeAt Go.RowKit
set_option linter.unusedVariables false

theorem plain0 : (Tryd.prog.funcs.toList.all fun fn => !(fn.name == "runtime.NumGoroutine")) = true := by kernel_rfl
theorem progOk : Go.Abs.ProgOk Tryd.prog := ⟨by kernel_rfl, fun f fn e => by
  have h := plain0
  simp only [List.all_eq_true, Bool.not_eq_true'] at h
  exact h fn (Array.mem_toList_iff.2 (Array.mem_of_getElem? e))⟩
theorem walk (w : World) [Go.Abs.GlobI fun B o => w.cell? ⟨B, o, none⟩] : Calls Tryd.prog 3 #[] w fun e w' => e = .returned (.bool true) ∧ Below w.heap.size w w' := by
  obtain ⟨m, h1, h2⟩ := Go.Abs.leads_last progOk hiddenKnownRun.last
  refine Go.Abs.calls_true (m0 := hiddenKnownRun.s0) (by kernel_rfl) ?_ h2 w
  refine (Go.Abs.leads_piece progOk hiddenKnownRun.c0).trans ?_
  refine (Go.Abs.leads_piece progOk hiddenKnownRun.c1).trans ?_
  refine (Go.Abs.leads_piece progOk hiddenKnownRun.c2).trans ?_
  refine (Go.Abs.leads_piece progOk hiddenKnownRun.c3).trans ?_
  refine (Go.Abs.leads_piece progOk hiddenKnownRun.c4).trans ?_
  exact h1

set_option maxRecDepth 100000 in
theorem lifted (os : Os) (started : os.Started) (H : Type) (enc : TypeId × Value → H) :
    ReturnsInHanded {} Tryd.checked os 3 .any (fun w args => (Rows.hiddenKnownSpec.pre enc Tryd.prog Tryd.f3 [] false w args ∧ laidMetH Tryd.prog GlobK.laidH w) ∧ sizedMet enc Tryd.prog Tryd.f3 (OpenSpec.ofChange Rows.hiddenKnownSpec) false w args)
      (Rows.hiddenKnownSpec.post enc Tryd.prog Tryd.f3 false true false false) := by
  refine returnsInHanded_of_change_and (C := Tryd.checked) (X := fun w _ => laidMetH Tryd.prog GlobK.laidH w) (fun _ _ _ hh h => h.of_heap hh) GlobK.own started (by kernel_rfl) Tryd.func3
    (ChangeSpec.witness_shaped (enc := enc) (C := Tryd.checked) (os := os) (X := fun w _ => laidMetH Tryd.prog GlobK.laidH w) false (World.doorLaid Tryd.prog 2000 os) #[] 8 rfl (World.shaped_of_RefB (by kernel_rfl) (by kernel_rfl)) (by kernel_rfl) (by kernel_rfl) (by kernel_rfl) (GlobK.door_met os _)) ?_
  intro W base args ds gs before hval0 hW _ _ hL _
  have hval : ∀ (j : Nat) t v, Tryd.f3.params[j]? = some t → args[j]? = some v → Value.okWide Tryd.prog W .any base t v := hval0
  have hW' := hW
  obtain ⟨p, q, hA0, hV, rfl, hfz, hnd⟩ := hW
  have hA : DataW.TrodAll enc Tryd.prog W 0 (fun _ => true) true Tryd.f3.params.toList args.toList ds p := hA0
  haveI : Go.Abs.GlobI (fun B o => W.cell? ⟨B, o, none⟩) := GlobK.glob hL
  rw [Tryd.params3] at hA hval
  obtain ⟨rfl, rfl, rfl⟩ := trodAll_none hA
  obtain ⟨rfl, rfl⟩ := trodVars_none hV
  clear hA0 hval0
  simp only [List.append_nil] at hW'
  refine (walk W).mono fun e W' ⟨he, hg⟩ => ?_
  subst he
  exact ⟨_, rfl, Go.Abs.post_of_below (pa := []) (pv := []) hW' (fun _ _ _ => (trodAll_cons_mk (shut_bool Tryd.underlying4 _) trodAll_mk0)) (fun sp _ => rfl) (fun _ _ => rfl) rfl
    hg (ok_one (by kernel_rfl) rfl (okWide_bool_mk Tryd.underlying4 _))⟩

theorem over : Rows.hiddenKnownRow.holds Tryd.pinned (OpenSpec.ofChange Rows.hiddenKnownSpec) :=
  OpenClaim.holds_of_wide 3 Tryd.f3 rfl rfl rfl rfl rfl rfl rfl ⟨rfl, rfl, rfl, rfl, rfl⟩ rfl rfl rfl rfl rfl (by kernel_rfl) Tryd.func3 (by kernel_rfl)
    (of_decide_eq_true (by kernel_rfl)) (by unfold Func.isWrapper; first | (rw [if_pos (by decide +kernel)]; kernel_rfl) | (rw [if_neg (by decide +kernel)]; exact ⟨rfl, rfl⟩))
    (fun os started H enc _ => lifted os started H enc)

/-- ████ THE STATEMENT: the row, tied to the program's text. ████ -/
theorem proved : Rows.HiddenKnownCardSaid :=
  Claim7.holds_tied_plain_at .later [] _ _ _ _ over (fun _ h => by cases h) (by kernel_rfl) (fun _ h => by cases h) hiddenKnown_row_tie rfl ⟨rfl, rfl⟩ (by kernel_rfl) rfl
    (fun f fn hf hfn => by
      obtain rfl : f = 3 := Option.some.inj ((show Tryd.prog.funcNamed "haruspex/haruspexlaw17.HiddenKnown" = some 3 by kernel_rfl).symm.trans hf) |>.symm
      obtain rfl : fn = Tryd.f3 := (Option.some.inj (Tryd.func3.symm.trans hfn)).symm
      exact ⟨by kernel_rfl, fun j t ht => by
        rw [Tryd.params3] at ht
        simp at ht⟩)
    (by kernel_rfl)
#print axioms proved
end Go.Proofs.YtbapeebnpnjaiaaDoor.hiddenKnown
