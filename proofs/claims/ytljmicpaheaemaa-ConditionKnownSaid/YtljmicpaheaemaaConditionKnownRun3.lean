import Derived.Test.YtljmicpaheaemaaConditionKnownState0
namespace Go.Proofs.Ytljmicpaheaemaa.conditionKnownRun
open Go Go.Abs Go.Proofs
theorem c6 : ((arunF Try.prog pl 30000 s6).bind (cut [1251, 1252, 1253, 1254, 1255, 1256, 1257, 1258, 1259, 1260, 1261, 1262, 1263, 1264, 1393, 1399, 1488, 1577, 1583, 1679, 1685, 1781, 1871, 1961, 1968, 1979, 1987, 1988, 1994, 2000, 2006, 2012, 2018, 2023, 2028, 2034, 2035, 3045, 3046, 3455, 3456, 3457, 3458, 3459, 3460, 3461, 3463, 3562, 3563, 4087, 4088, 4089, 4090, 4091, 4092, 4093, 4094, 4095, 4096, 4097, 4103, 4515, 4516, 4517, 4519, 4521, 4522, 4532, 4533, 4534, 4535, 4536])) = some s7 := by kernel_rfl
theorem last : ((arunF Try.prog pl 20366 s7).bind (done Try.prog 4)) = some ((.bool true)) := by kernel_rfl
end Go.Proofs.Ytljmicpaheaemaa.conditionKnownRun
