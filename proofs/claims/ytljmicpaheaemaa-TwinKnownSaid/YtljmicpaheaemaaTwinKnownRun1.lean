import Derived.Test.YtljmicpaheaemaaTwinKnownState1
namespace Go.Proofs.Ytljmicpaheaemaa.twinKnownRun
open Go Go.Abs Go.Proofs
theorem c3 : ((arunF Try.prog pl 30000 s3).bind (cut [704, 705, 706, 707, 708, 709, 710, 711, 712, 713, 714, 715, 786, 787, 992, 1011, 1013, 1015, 1016, 1017, 1090, 1091, 1092, 1093, 1094, 1095, 1096, 1097, 1099, 1111, 1167, 1168, 1169, 1170, 1171, 1172, 1237, 1238, 1239, 1240, 1241, 1242, 1243, 1244])) = some s4 := by kernel_rfl
theorem c4 : ((arunF Try.prog pl 30018 s4).bind (cut [704, 705, 706, 707, 708, 709, 710, 711, 712, 713, 714, 715, 786, 787, 992, 1011, 1013, 1015, 1016, 1017, 1090, 1091, 1092, 1093, 1094, 1095, 1096, 1097, 1099, 1111, 1167, 1168, 1169, 1170, 1171, 1172, 1365, 1373])) = some s5 := by kernel_rfl
theorem c5 : ((arunF Try.prog pl 30000 s5).bind (cut [704, 705, 706, 707, 708, 709, 710, 711, 712, 713, 714, 715, 786, 787, 992, 1011, 1013, 1015, 1016, 1017, 1090, 1091, 1092, 1093, 1094, 1095, 1096, 1097, 1099, 1111, 1167, 1168, 1169, 1170, 1171, 1172, 1501, 1509])) = some s6 := by kernel_rfl
end Go.Proofs.Ytljmicpaheaemaa.twinKnownRun
