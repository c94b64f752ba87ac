import Derived.Test.YtlockljeacmhjaaLiftKnownState1
namespace Go.Proofs.Ytlockljeacmhjaa.liftKnownRun
open Go Go.Abs Go.Proofs
theorem c0 : ((arunF Try.prog pl 20000 s0).bind (cut [1, 2, 3, 4, 5, 73, 138, 178, 208, 214, 215, 220, 221, 225, 227, 231, 235, 239, 241, 243, 244, 245, 246, 247, 249, 251, 252, 282, 292, 304, 305, 319])) = some s1 := by kernel_rfl
theorem c1 : ((arunF Try.prog pl 20000 s1).bind (cut [1, 2, 3, 4, 5, 73, 138, 178, 208, 214, 215, 220, 221, 225, 227, 231, 235, 239, 241, 243, 244, 245, 498, 499, 500, 501, 503, 505, 506, 527, 537, 547, 548, 549, 550, 552, 553, 554])) = some s2 := by kernel_rfl
theorem c2 : ((arunF Try.prog pl 20000 s2).bind (cut [1, 2, 3, 4, 5, 73, 138, 178, 208, 214, 215, 220, 221, 225, 227, 231, 235, 239, 241, 243, 244, 245, 498, 499, 674, 764, 765, 767, 769, 770, 771, 777, 778, 779, 780, 783, 784, 785, 786])) = some s3 := by kernel_rfl
theorem c3 : ((arunF Try.prog pl 20000 s3).bind (cut [859, 860, 861, 862, 863, 930, 998, 1036, 1043, 1062, 1069, 1076, 1083, 1084, 1085, 1086, 1087])) = some s4 := by kernel_rfl
end Go.Proofs.Ytlockljeacmhjaa.liftKnownRun
