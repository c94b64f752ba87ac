import Derived.Test.YtlockljeacmhjaaLiftKnownState1
namespace Go.Proofs.Ytlockljeacmhjaa.liftKnownRun
open Go Go.Abs Go.Proofs
theorem c12 : ((arunF Try.prog pl 20000 s12).bind (cut [859, 860, 861, 862, 863, 930, 998, 1036, 1043, 1062, 1069, 1076, 1083, 1094, 1095, 1100, 1101, 1105, 1107, 1111, 1115, 1119, 1121, 1123, 1124, 1153, 1154, 1322, 1326, 1329, 1332, 1334, 1337, 1338, 1341, 1344, 1347, 1350, 1353, 1356, 1359, 1362, 1365, 1368, 1369, 1370, 1374, 1403, 1623, 1624, 1769, 1770, 1954, 2028, 2029, 2173, 3229, 3230, 3231, 3232, 3234, 3236, 3237, 3238, 3244, 3245, 3246, 3247, 3257, 3258, 3259])) = some s13 := by kernel_rfl
theorem last : ((arunF Try.prog pl 8108 s13).bind (done Try.prog 8)) = some ((.bool true)) := by kernel_rfl
end Go.Proofs.Ytlockljeacmhjaa.liftKnownRun
