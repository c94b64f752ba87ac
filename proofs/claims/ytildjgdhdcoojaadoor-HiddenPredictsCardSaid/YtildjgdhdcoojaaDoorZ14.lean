/- Texts of the claim: WakesH. -/
import Derived.Test.YtildjgdhdcoojaaDoorZ13
import Derived.Test.YtildjgdhdcoojaaDoorZ11
set_option linter.unusedVariables false
set_option linter.unusedSimpArgs false
namespace X
open Go Go.Abs Go.Sym
theorem wakes_spec : Fn prog 10 [] (.bool true) := by
 have hl := WK.last
 cases h : arunF prog WK.pl 29682 WK.s1 with
 | none => rw [show Go.Proofs.Tryd.prog = prog from rfl, h] at hl; cases hl
 | some m' =>
  rw [show Go.Proofs.Tryd.prog = prog from rfl, h] at hl
  have hd : doneT prog 10 0 true m' = true := by simpa using hl
  have hL : Leads prog WK.s0 m' := (leads_piece progOk WK.c0).trans (leads_run progOk h)
  exact fn_closed (g := WK.s0.fr) (by kernel_rfl) hL hd (by kernel_rfl)
end X
