import Derived.Test.YtljmicpaheaemaaSensitiveKnownState0
namespace Go.Proofs.Ytljmicpaheaemaa.sensitiveKnownRun
open Go Go.Abs Go.Proofs
theorem last : ((arunF Try.prog pl 12021 s6).bind (done Try.prog 5)) = some ((.bool true)) := by kernel_rfl
end Go.Proofs.Ytljmicpaheaemaa.sensitiveKnownRun
