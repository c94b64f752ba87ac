/- Texts of the claim: Run2. -/
import Derived.Test.YtbapeebnpnjaiaaDoorZ04
set_option linter.unusedVariables false
set_option linter.unusedSimpArgs false
namespace Go.Proofs.YtbapeebnpnjaiaaDoor.hiddenKnownRun
open Go Go.Abs Go.Proofs
theorem c4 : ((arunF Tryd.prog pl 30000 s4).bind (cut [852, 853, 854, 855, 856, 857, 858, 859, 860, 861, 903, 904, 952, 1021, 1059, 1061, 1062, 1120, 1121, 1127, 1192, 1206, 1208, 1209, 1210, 1213, 1215, 1218, 1220, 1223, 1225, 1226, 1227, 1230, 1232, 1234, 1235, 1239, 1243, 1247, 1253, 1259, 1265, 1271, 1272, 1273, 1274, 1275, 1276, 1336, 1338, 1339, 1340, 1341, 1342, 1343, 1344, 1345, 1346, 1347, 1371, 1377, 1539, 1540, 1541, 1542, 1543, 1544, 1545, 1546, 1547, 1551, 1864, 1959, 1960, 2126, 2127, 2128, 2129, 2131, 2133, 2134, 2141, 2163, 2164, 2165, 2166, 2167, 2168, 2169])) = some s5 := by kernel_rfl
theorem last : ((arunF Tryd.prog pl 25196 s5).bind (done Tryd.prog 3)) = some ((.bool true)) := by kernel_rfl
end Go.Proofs.YtbapeebnpnjaiaaDoor.hiddenKnownRun
