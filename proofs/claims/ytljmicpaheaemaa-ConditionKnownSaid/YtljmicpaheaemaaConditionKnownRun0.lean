import Derived.Test.YtljmicpaheaemaaConditionKnownState0
namespace Go.Proofs.Ytljmicpaheaemaa.conditionKnownRun
open Go Go.Abs Go.Proofs
theorem c0 : ((arunF Try.prog pl 30000 s0).bind (cut [1, 2, 3, 4, 5, 6, 7, 8, 9, 10, 11, 12, 13, 136, 149, 150, 152, 153, 154, 155, 156, 157, 158, 159, 160, 161, 162, 168, 578, 579, 580, 582, 584, 585, 610, 620, 634, 635, 636, 637])) = some s1 := by kernel_rfl
theorem c1 : ((arunF Try.prog pl 30000 s1).bind (cut [1, 2, 3, 4, 5, 6, 7, 8, 9, 10, 11, 12, 13, 136, 149, 150, 673, 1061, 1161, 1162, 1163, 1164, 1165, 1166, 1167, 1178, 1179, 1180, 1181, 1182, 1187, 1198, 1199, 1200, 1201, 1202, 1203, 1204, 1205, 1208, 1215, 1216, 1217, 1218, 1219, 1220, 1221, 1222])) = some s2 := by kernel_rfl
end Go.Proofs.Ytljmicpaheaemaa.conditionKnownRun
