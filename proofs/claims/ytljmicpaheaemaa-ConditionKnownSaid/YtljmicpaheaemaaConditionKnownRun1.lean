import Derived.Test.YtljmicpaheaemaaConditionKnownState0
namespace Go.Proofs.Ytljmicpaheaemaa.conditionKnownRun
open Go Go.Abs Go.Proofs
theorem c2 : ((arunF Try.prog pl 30000 s2).bind (cut [1251, 1252, 1253, 1254, 1255, 1256, 1257, 1258, 1259, 1260, 1261, 1262, 1263, 1264, 1393, 1399, 1488, 1577, 1583, 1679, 1685, 1781, 1871, 1872, 1873, 1874, 1875, 1876, 1877, 1878, 1889, 1890, 1891, 1892, 1893])) = some s3 := by kernel_rfl
theorem c3 : ((arunF Try.prog pl 30000 s3).bind (cut [1251, 1252, 1253, 1254, 1255, 1256, 1257, 1258, 1259, 1260, 1261, 1262, 1263, 1264, 1393, 1399, 1488, 1577, 1583, 1679, 1685, 1781, 1871, 1961, 1968, 1979, 1987, 1988, 1994, 2000, 2006, 2012, 2018, 2023, 2028, 2034, 2035, 2577, 2578, 2579, 2580, 2581, 2582, 2593, 2594, 2595, 2596, 2597, 2598, 2599, 2600])) = some s4 := by kernel_rfl
end Go.Proofs.Ytljmicpaheaemaa.conditionKnownRun
