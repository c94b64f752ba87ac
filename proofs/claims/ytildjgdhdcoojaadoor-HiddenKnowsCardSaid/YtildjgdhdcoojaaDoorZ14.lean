/- Texts of the claim: WakesH. -/
import Derived.Test.YtildjgdhdcoojaaDoorZ13
import Derived.Test.YtildjgdhdcoojaaDoorZ11
set_option linter.unusedVariables false
set_option linter.unusedSimpArgs false
namespace X
open Go Go.a9 Go.Sym
theorem yd : Fn prog 10 [] (.bool true) := by
 have hl := WK.last
 cases h : oM prog WK.pl 29682 WK.s1 with
 | none => rw [show Go.Proofs.Tryd.prog = prog from rfl, h] at hl; cases hl
 | some m' =>
  rw [show Go.Proofs.Tryd.prog = prog from rfl, h] at hl
  have hd : xJ prog 10 0 true m' = true := by simpa using hl
  have hL : bP prog WK.s0 m' := (xh aa WK.c0).trans (uF aa h)
  exact AQ (g := WK.s0.fr) (by kernel_rfl) hL hd (by kernel_rfl)
end X
