import Derived.Test.YtljmicpaheaemaaActKnownState1
namespace Go.Proofs.Ytljmicpaheaemaa.actKnownRun
open Go Go.Abs Go.Proofs
theorem c14 : ((arunF Try.prog pl 30000 s14).bind (cut [3385, 3386, 3387, 3388, 3389, 3390, 3391, 3392, 3393, 3394, 3395, 3396, 3397, 3398, 3399, 3622, 3624, 3630, 3632, 3636, 3638, 3644, 3646, 3650, 3654, 3658, 3660, 3662, 3663, 4067, 4068, 4069, 4425, 4434, 4435, 4654, 4655, 4874, 4875, 5094, 5420, 5745, 5746, 6182, 6294, 6406, 6536, 6591, 6777, 6850, 6851, 8292, 8293, 8294, 8295, 8296, 8297, 8298, 8299, 8300, 8301, 8302, 8303, 8304, 8305, 8306, 8307, 8308, 8309, 8310, 8311, 8322, 8323, 8324, 8325, 8326, 8331, 8342, 8343, 8344, 8345, 8346, 8347, 8348, 8349, 8350, 8351])) = some s15 := by kernel_rfl
theorem last : ((arunF Try.prog pl 17317 s15).bind (done Try.prog 7)) = some ((.bool true)) := by kernel_rfl
end Go.Proofs.Ytljmicpaheaemaa.actKnownRun
