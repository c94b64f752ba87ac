/- Texts of the claim: Run0. -/
import Derived.Test.YtbapeebnpnjaiaaDoorZ04
set_option linter.unusedVariables false
set_option linter.unusedSimpArgs false
namespace Go.Proofs.YtbapeebnpnjaiaaDoor.hiddenKnownRun
open Go Go.Abs Go.Proofs
theorem c0 : ((arunF Tryd.prog pl 30012 s0).bind (cut [1, 2, 3, 4, 5, 6, 7, 8, 9, 19, 30, 36, 37, 47, 56, 64, 65, 113, 114, 215, 262, 264, 265, 324, 325, 326, 327, 328, 329, 330, 433, 434, 435, 437, 439, 440, 456, 466, 474, 475, 476, 477, 480, 481, 482, 483])) = some s1 := by kernel_rfl
theorem c1 : ((arunF Tryd.prog pl 30000 s1).bind (cut [852, 853, 854, 855, 856, 857, 858, 859, 860, 861, 862, 863, 864, 865, 866])) = some s2 := by kernel_rfl
end Go.Proofs.YtbapeebnpnjaiaaDoor.hiddenKnownRun
