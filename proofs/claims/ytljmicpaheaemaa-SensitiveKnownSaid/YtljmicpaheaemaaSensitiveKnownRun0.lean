import Derived.Test.YtljmicpaheaemaaSensitiveKnownState0
namespace Go.Proofs.Ytljmicpaheaemaa.sensitiveKnownRun
open Go Go.Abs Go.Proofs
theorem c0 : ((arunF Try.prog pl 30000 s0).bind (cut [1, 2, 3, 4, 5, 6, 7, 8, 9, 10, 11, 12, 13, 120, 121, 245, 246, 316, 317, 318, 442, 443, 444, 574, 584, 585, 708, 709, 710, 711, 712, 713, 714, 715, 716, 717, 718, 775, 776, 777, 778, 779, 785, 786, 787, 788, 789, 794, 805, 806, 807, 808, 809, 810, 811, 812, 813, 814, 815, 816, 817, 818, 819, 820])) = some s1 := by kernel_rfl
theorem c1 : ((arunF Try.prog pl 30000 s1).bind (cut [1, 2, 3, 4, 5, 6, 7, 8, 9, 10, 11, 12, 13, 120, 121, 245, 246, 316, 317, 318, 442, 443, 444, 574, 584, 585, 708, 709, 854, 855, 1000, 1001, 1119, 1120, 1238, 1239, 1357, 1358, 1359, 1360, 1361, 1362, 1363, 1420, 1424, 1432, 1434])) = some s2 := by kernel_rfl
end Go.Proofs.Ytljmicpaheaemaa.sensitiveKnownRun
