import Derived.Test.YtljmicpaheaemaaTwinKnownState1
namespace Go.Proofs.Ytljmicpaheaemaa.twinKnownRun
open Go Go.Abs Go.Proofs
theorem c0 : ((arunF Try.prog pl 30000 s0).bind (cut [1, 2, 3, 4, 5, 6, 7, 8, 9, 10, 11, 35, 36, 67, 96, 98, 99, 100, 101, 103, 104, 105, 106, 107, 108, 109, 110, 140, 143, 144, 145, 175, 178, 255, 256, 333, 334, 335, 336, 337, 338, 339, 340, 341, 342, 343])) = some s1 := by kernel_rfl
theorem c1 : ((arunF Try.prog pl 30000 s1).bind (cut [1, 2, 3, 4, 5, 6, 7, 8, 9, 10, 11, 35, 36, 67, 96, 98, 99, 100, 101, 103, 104, 105, 106, 107, 108, 109, 110, 140, 143, 144, 145, 175, 178, 255, 256, 333, 334, 335, 336, 417, 418, 419, 500, 501, 502, 503, 504, 594, 595, 596, 597, 598, 599, 600, 601, 602, 603, 604, 606, 610, 627, 628, 629, 630, 631, 672, 673, 674, 675, 676, 677])) = some s2 := by kernel_rfl
theorem c2 : ((arunF Try.prog pl 30000 s2).bind (cut [704, 705, 706, 707, 708, 709, 710, 711, 712, 713, 714, 715, 786, 787, 992, 1011, 1013, 1015, 1016, 1017, 1018, 1019, 1020, 1021, 1022, 1033, 1034, 1047, 1048, 1049, 1051, 1052])) = some s3 := by kernel_rfl
end Go.Proofs.Ytljmicpaheaemaa.twinKnownRun
