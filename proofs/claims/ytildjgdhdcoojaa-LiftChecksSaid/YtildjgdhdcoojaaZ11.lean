/- Texts of the claim: P_lift_Ground, P_ref14_Ground, P_LiftChecks, Paths, T1, Num1, Num2, Num3, Num4, Num5, Num6, Lift1, Lift2, Lift3, Num7, Num8, Lift4, Lift5, Lift6, Lift7, Lift9, Lift10, Lift11, Lift12, Lift13. -/
import Derived.Test.YtildjgdhdcoojaaZ10
namespace X
open Go Go.Abs Go.Sym
set_option linter.unusedVariables false
/-! haruspex/lift.Ground -/
namespace lift_Ground
abbrev f : Nat := 12
noncomputable def K : Cfg := ⟨prog, pl, [], [37, 38], []⟩
noncomputable def s0 : SMach := ⟨⟨12, 91, (l (.agg [(.int .i64 (.toI (.get (.vv 0) (.il 0)))), (.int .i64 (.toI (.get (.vv 0) (.il 1)))), (.int .i64 (.toI (.get (.vv 0) (.il 2)))), (.pure 64 (.get (.vv 0) (.il 3)) (.cell 0 3))])), [.code (C 12 [])], [], .run, false, none⟩, [], ⟨0, 1, 1, z⟩⟩
noncomputable def s1 : SMach := ⟨⟨12, 91, (n (m (.addr 0 0) (l (.addr 3 0)) z (n (l (.int .i64 (.iv 0))) z z z) z) (l (.addr 1 0)) z (m (.addr 2 0) z (n (l (.int .i64 (.toI (.get (.vv 0) (.il 1))))) z z z) z z)), [.code (C 12 [1, 1, 1, 1, 1, 0, 1, 0, 0]), .inLoop (C 12 [1, 1, 1, 1, 1, 0, 1, 0, 0]), .inBlock 0, .code (C 12 [1, 1, 1, 1, 1, 1])], [], .run, false, none⟩, [], ⟨6, 3, 4, (m (.cells [(.int .i64 (.toI (.get (.vv 0) (.il 0)))), (.int .i64 (.toI (.get (.vv 0) (.il 1)))), (.int .i64 (.toI (.get (.vv 0) (.il 2)))), (.pure 64 (.get (.vv 0) (.il 3)) (.cell 2 0))]) (m (.cells [(.int .i64 (.il 0)), .nils]) (l (.arr 3 (.vv 3) 0)) z z z) (l (.cells [(.int .i64 (.toI (.get (.vv 0) (.il 0)))), (.view 4)])) (l (.cells [(.int .i64 (.len (.get (.get (.vv 0) (.il 3)) (.il 0)))), (.view 5), .nils])) (l (.arr 69 (.vv 2) 0)))⟩⟩
noncomputable def s2 : SMach := ⟨⟨12, 91, (n (m (.addr 0 0) (l (.addr 3 0)) (n z z (l (.int .i64 (.iv 0))) z) z z) (l (.addr 1 0)) z (m (.addr 2 0) (n z z (l (.int .i64 (.shl .i64 (.il 1) (.toI (.get (.vv 0) (.il 1)))))) z) z z z)), [.code (C 12 [1, 1, 1, 1, 1, 1, 0, 1, 0, 0]), .inLoop (C 12 [1, 1, 1, 1, 1, 1, 0, 1, 0, 0]), .inBlock 2, .code (C 12 [1, 1, 1, 1, 1, 1, 1])], [], .run, false, none⟩, [], ⟨7, 4, 5, (m (.cells [(.int .i64 (.toI (.get (.vv 0) (.il 0)))), (.int .i64 (.toI (.get (.vv 0) (.il 1)))), (.int .i64 (.toI (.get (.vv 0) (.il 2)))), (.pure 64 (.get (.vv 0) (.il 3)) (.cell 3 0))]) (m (.cells [(.int .i64 (.il 0)), .nils]) (l (.arr 3 (.vv 3) 0)) z z z) (m (.cells [(.int .i64 (.toI (.get (.vv 0) (.il 0)))), (.view 4)]) (l (.arr 64 (.vv 4) 0)) z z z) (l (.cells [(.int .i64 (.len (.get (.get (.vv 0) (.il 3)) (.il 0)))), (.view 5), (.view 6)])) (l (.arr 69 (.vv 2) 0)))⟩⟩
noncomputable def s3 : SMach := ⟨⟨12, 91, (n (m (.addr 0 0) (l (.addr 3 0)) (n z z (l (.int .i64 (.iv 3))) z) (n z z (l (.int .i64 (.toI (.get (.vv 0) (.il 1))))) z) z) (m (.addr 1 0) z z (n z z (l (.int .i64 (.iv 1))) z) z) (n (l (.int .i64 (.iv 2))) z z z) (m (.addr 2 0) (m (.int .i64 (.iv 0)) z z (l (.int .i64 (.shl .i64 (.il 1) (.toI (.get (.vv 0) (.il 1)))))) z) z z z)), [.code (C 12 [1, 1, 1, 1, 1, 1, 0, 1, 0, 0, 1, 1, 0, 0, 1, 1, 0, 1, 0, 0]), .inLoop (C 12 [1, 1, 1, 1, 1, 1, 0, 1, 0, 0, 1, 1, 0, 0, 1, 1, 0, 1, 0, 0]), .inBlock 4, .code (C 12 [1, 1, 1, 1, 1, 1, 0, 1, 0, 0, 1, 1, 0, 0, 1, 1, 1]), .inBlock 3, .code (C 12 [1, 1, 1, 1, 1, 1, 0, 1, 0, 0, 1, 1, 1]), .inLoop (C 12 [1, 1, 1, 1, 1, 1, 0, 1, 0, 0]), .inBlock 2, .code (C 12 [1, 1, 1, 1, 1, 1, 1])], [], .run, false, none⟩, [], ⟨7, 5, 5, (m (.cells [(.int .i64 (.toI (.get (.vv 0) (.il 0)))), (.int .i64 (.toI (.get (.vv 0) (.il 1)))), (.int .i64 (.toI (.get (.vv 0) (.il 2)))), (.pure 64 (.get (.vv 0) (.il 3)) (.cell 4 0))]) (m (.cells [(.int .i64 (.il 0)), .nils]) (l (.arr 3 (.vv 3) 0)) z z z) (m (.cells [(.int .i64 (.toI (.get (.vv 0) (.il 0)))), (.view 4)]) (l (.arr 64 (.vv 4) 0)) z z z) (l (.cells [(.int .i64 (.len (.get (.get (.vv 0) (.il 3)) (.il 0)))), (.view 5), (.view 6)])) (l (.arr 69 (.vv 2) 0)))⟩⟩
theorem p0 : last K 12 21 [true] s0 = some ((.snoc (.snoc .emp (.snoc (.snoc .emp (.ofI (.il 0))) .nil)) (.ofI (.il 140))), [.call 37 [(.snoc (.snoc (.snoc (.snoc .emp (.ofI (.toI (.get (.vv 0) (.il 0))))) (.ofI (.toI (.get (.vv 0) (.il 1))))) (.ofI (.toI (.get (.vv 0) (.il 2))))) (.get (.vv 0) (.il 3)))], .ask (.not (.toB (.vv 1)))]) := by kernel_rfl
theorem p1 : last K 12 30 [false, true] s0 = some ((.snoc (.snoc .emp (.snoc (.snoc .emp (.ofI (.il 0))) .nil)) (.ofI (.il 6))), [.call 37 [(.snoc (.snoc (.snoc (.snoc .emp (.ofI (.toI (.get (.vv 0) (.il 0))))) (.ofI (.toI (.get (.vv 0) (.il 1))))) (.ofI (.toI (.get (.vv 0) (.il 2))))) (.get (.vv 0) (.il 3)))], .ask (.not (.not (.toB (.vv 1)))), .ask (.lt (.il 7) (.toI (.get (.vv 0) (.il 1))))]) := by kernel_rfl
theorem p2 : stretch K 52 [false, false] s0 s1 [] ⟨[(.il 0)], [], [(.vv 0), (.vv 1), .nil, .nil], [(.cell 0 0), (.cell 1 0), (.cell 0 3)]⟩ [(0, (some 0)), (1, (some 1)), (2, (some 2)), (4, none), (3, (some 3)), (5, none)] = some (s1, [.call 37 [(.snoc (.snoc (.snoc (.snoc .emp (.ofI (.toI (.get (.vv 0) (.il 0))))) (.ofI (.toI (.get (.vv 0) (.il 1))))) (.ofI (.toI (.get (.vv 0) (.il 2))))) (.get (.vv 0) (.il 3)))], .ask (.not (.not (.toB (.vv 1)))), .ask (.not (.lt (.il 7) (.toI (.get (.vv 0) (.il 1))))), .ask (.lt (.il 0) (.len (.get (.vv 0) (.il 3))))]) := by kernel_rfl
theorem p3 : stretch K 48 [true] s1 s1 [] ⟨[(.add (.iv 0) (.il 1))], [], [(.vv 0), (.vv 1), (.snoc (.vv 2) (.snoc (.snoc (.snoc .emp (.ofI (.il 2))) .nil) (.snoc .emp (.snoc (.snoc .emp (.ofI (.sub (.toI (.get (.vv 0) (.il 0))) (.toI (.get (.vv 0) (.il 2)))))) (.ofI (.toI (.get (.vv 0) (.il 2)))))))), (.snoc (.vv 3) (.ofI (.iv 0)))], [(.cell 0 0), (.cell 1 0), (.cell 2 0)]⟩ [(0, (some 0)), (1, (some 1)), (2, (some 2)), (4, (some 9)), (3, (some 3)), (5, (some 11))] = some (s1, [.ask (.lt (.iv 0) (.toI (.get (.vv 0) (.il 1)))), .ask (.and (.le (.il (-9223372036854775808)) (.sub (.toI (.get (.vv 0) (.il 0))) (.toI (.get (.vv 0) (.il 2))))) (.le (.sub (.toI (.get (.vv 0) (.il 0))) (.toI (.get (.vv 0) (.il 2)))) (.il 9223372036854775807))), .ask (.le (.add (.len (.vv 2)) (.il 1)) (.il 1256584716946)), .ask (.le (.add (.len (.vv 3)) (.il 1)) (.il 8796093021696)), .ask (.and (.le (.il (-9223372036854775808)) (.add (.iv 0) (.il 1))) (.le (.add (.iv 0) (.il 1)) (.il 9223372036854775807)))]) := by kernel_rfl
theorem p4 : stretch K 17 [false] s1 s2 [] ⟨[(.il 0)], [], [(.vv 0), (.vv 1), (.vv 2), (.vv 3), .nil], [(.cell 0 0), (.cell 1 0), (.cell 2 0), (.cell 2 0)]⟩ [(0, (some 0)), (1, (some 1)), (2, (some 2)), (4, (some 4)), (3, (some 3)), (5, (some 5)), (6, none)] = some (s2, [.ask (.not (.lt (.iv 0) (.toI (.get (.vv 0) (.il 1))))), .ask (.le (.il 0) (.toI (.get (.vv 0) (.il 1)))), .ask (.and (.le (.il (-9223372036854775808)) (.shl .i64 (.il 1) (.toI (.get (.vv 0) (.il 1))))) (.le (.shl .i64 (.il 1) (.toI (.get (.vv 0) (.il 1)))) (.il 9223372036854775807)))]) := by kernel_rfl
theorem p5 : stretch K 27 [true] s2 s3 [] ⟨[(.il 0), (.il 0), (.iv 0), (.iv 0)], [], [(.vv 0), (.vv 1), (.vv 2), (.vv 3), (.vv 4)], [(.cell 0 0), (.cell 1 0), (.cell 2 0), (.cell 3 0), (.cell 3 0)]⟩ [(0, (some 0)), (1, (some 1)), (2, (some 2)), (4, (some 4)), (3, (some 3)), (5, (some 5)), (6, (some 6))] = some (s3, [.ask (.lt (.iv 0) (.shl .i64 (.il 1) (.toI (.get (.vv 0) (.il 1)))))]) := by kernel_rfl
theorem p6 : last K 12 24 [false] s2 = some ((.snoc (.snoc .emp (.snoc (.snoc .emp (.ofI (.toI (.get (.vv 0) (.il 0))))) (.snoc (.vv 2) (.snoc (.snoc (.snoc .emp (.ofI (.len (.get (.get (.vv 0) (.il 3)) (.il 0))))) (.vv 3)) (.vv 4))))) (.ofI (.il 0))), [.ask (.not (.lt (.iv 0) (.shl .i64 (.il 1) (.toI (.get (.vv 0) (.il 1)))))), .ask (.le (.add (.len (.vv 2)) (.il 1)) (.il 1256584716946))]) := by kernel_rfl
theorem p7 : stretch K 29 [true] s3 s3 [] ⟨[(.add (.iv 0) (.bits .and .i64 (.shr .i64 (.iv 2) (.iv 1)) (.il 1))), (.add (.iv 1) (.il 1)), (.iv 2), (.iv 3)], [], [(.vv 0), (.vv 1), (.vv 2), (.vv 3), (.vv 4)], [(.cell 0 0), (.cell 1 0), (.cell 2 0), (.cell 3 0), (.cell 4 0)]⟩ [(0, (some 0)), (1, (some 1)), (2, (some 2)), (4, (some 4)), (3, (some 3)), (5, (some 5)), (6, (some 6))] = some (s3, [.ask (.lt (.iv 1) (.toI (.get (.vv 0) (.il 1)))), .ask (.le (.il 0) (.iv 1)), .ask (.and (.le (.il (-9223372036854775808)) (.add (.iv 0) (.bits .and .i64 (.shr .i64 (.iv 2) (.iv 1)) (.il 1)))) (.le (.add (.iv 0) (.bits .and .i64 (.shr .i64 (.iv 2) (.iv 1)) (.il 1))) (.il 9223372036854775807))), .ask (.and (.le (.il (-9223372036854775808)) (.add (.iv 1) (.il 1))) (.le (.add (.iv 1) (.il 1)) (.il 9223372036854775807)))]) := by kernel_rfl
theorem p8 : stretch K 27 [false] s3 s2 [] ⟨[(.add (.iv 3) (.il 1))], [], [(.vv 0), (.vv 1), (.vv 2), (.vv 3), (.snoc (.vv 4) (.vv 5))], [(.cell 0 0), (.cell 1 0), (.cell 2 0), (.cell 4 0)]⟩ [(0, (some 0)), (1, (some 1)), (2, (some 2)), (4, (some 4)), (3, (some 3)), (5, (some 5)), (6, (some 8))] = some (s2, [.ask (.not (.lt (.iv 1) (.toI (.get (.vv 0) (.il 1))))), .ask (.and (.le (.il 0) (.iv 0)) (.lt (.iv 0) (.len (.get (.vv 0) (.il 3))))), .call 38 [(.get (.get (.vv 0) (.il 3)) (.iv 0))], .ask (.le (.add (.len (.vv 4)) (.il 1)) (.il 2932031006890)), .ask (.and (.le (.il (-9223372036854775808)) (.add (.iv 3) (.il 1))) (.le (.add (.iv 3) (.il 1)) (.il 9223372036854775807)))]) := by kernel_rfl
theorem b : sbegin prog 12 = some s0 := by kernel_rfl
end lift_Ground
end X
namespace X
open Go Go.Abs Go.Sym
set_option linter.unusedVariables false
/-! haruspex/haruspexref14.Ground -/
namespace ref14_Ground
abbrev f : Nat := 15
noncomputable def K : Cfg := ⟨prog, pl, [], [], []⟩
noncomputable def s0 : SMach := ⟨⟨15, 83, (l (.agg [(.int .i64 (.toI (.get (.vv 0) (.il 0)))), (.int .i64 (.toI (.get (.vv 0) (.il 1)))), (.int .i64 (.toI (.get (.vv 0) (.il 2)))), (.pure 64 (.get (.vv 0) (.il 3)) (.cell 0 3))])), [.code (C 15 [])], [], .run, false, none⟩, [], ⟨0, 1, 1, z⟩⟩
noncomputable def s1 : SMach := ⟨⟨15, 83, (n (m (.addr 0 0) (l (.int .i64 (.iv 0))) z z z) (l (.addr 1 0)) (l (.addr 2 0)) (l (.addr 3 0))), [.code (C 15 [1, 1, 1, 0, 1, 0, 0]), .inLoop (C 15 [1, 1, 1, 0, 1, 0, 0]), .inBlock 0, .code (C 15 [1, 1, 1, 1])], [], .run, false, none⟩, [], ⟨6, 2, 3, (m (.cells [(.int .i64 (.toI (.get (.vv 0) (.il 0)))), (.int .i64 (.toI (.get (.vv 0) (.il 1)))), (.int .i64 (.toI (.get (.vv 0) (.il 2)))), (.pure 64 (.get (.vv 0) (.il 3)) (.cell 1 0))]) (m (.cells [(.int .i64 (.il 0)), .nils]) (l (.arr 3 (.vv 2) 0)) z z z) (l (.cells [(.int .i64 (.toI (.get (.vv 0) (.il 0)))), (.view 4)])) (l (.cells [(.int .i64 (.len (.get (.get (.vv 0) (.il 3)) (.il 0)))), (.view 5), .nils])) (l (.arr 69 (.vv 1) 0)))⟩⟩
noncomputable def s2 : SMach := ⟨⟨15, 83, (n (l (.addr 0 0)) (m (.addr 1 0) (l (.int .i64 (.iv 0))) z z z) (l (.addr 2 0)) (l (.addr 3 0))), [.code (C 15 [1, 1, 1, 1, 0, 1, 0, 0]), .inLoop (C 15 [1, 1, 1, 1, 0, 1, 0, 0]), .inBlock 2, .code (C 15 [1, 1, 1, 1, 1])], [], .run, false, none⟩, [], ⟨7, 3, 4, (m (.cells [(.int .i64 (.toI (.get (.vv 0) (.il 0)))), (.int .i64 (.toI (.get (.vv 0) (.il 1)))), (.int .i64 (.toI (.get (.vv 0) (.il 2)))), (.pure 64 (.get (.vv 0) (.il 3)) (.cell 2 0))]) (m (.cells [(.int .i64 (.il 0)), .nils]) (l (.arr 3 (.vv 2) 0)) z z z) (m (.cells [(.int .i64 (.toI (.get (.vv 0) (.il 0)))), (.view 4)]) (l (.arr 64 (.vv 3) 0)) z z z) (l (.cells [(.int .i64 (.len (.get (.get (.vv 0) (.il 3)) (.il 0)))), (.view 5), (.view 6)])) (l (.arr 69 (.vv 1) 0)))⟩⟩
noncomputable def s3 : SMach := ⟨⟨15, 83, (n (l (.addr 0 0)) (m (.addr 1 0) (l (.int .i64 (.iv 2))) z z z) (m (.addr 2 0) (l (.int .i64 (.iv 0))) z z z) (m (.addr 3 0) (l (.int .i64 (.iv 1))) z z z)), [.code (C 15 [1, 1, 1, 1, 0, 1, 0, 0, 1, 0, 0, 1, 0, 1, 0, 0]), .inLoop (C 15 [1, 1, 1, 1, 0, 1, 0, 0, 1, 0, 0, 1, 0, 1, 0, 0]), .inBlock 4, .code (C 15 [1, 1, 1, 1, 0, 1, 0, 0, 1, 0, 0, 1, 1]), .inBlock 3, .code (C 15 [1, 1, 1, 1, 0, 1, 0, 0, 1, 1]), .inLoop (C 15 [1, 1, 1, 1, 0, 1, 0, 0]), .inBlock 2, .code (C 15 [1, 1, 1, 1, 1])], [], .run, false, none⟩, [], ⟨7, 4, 4, (m (.cells [(.int .i64 (.toI (.get (.vv 0) (.il 0)))), (.int .i64 (.toI (.get (.vv 0) (.il 1)))), (.int .i64 (.toI (.get (.vv 0) (.il 2)))), (.pure 64 (.get (.vv 0) (.il 3)) (.cell 3 0))]) (m (.cells [(.int .i64 (.il 0)), .nils]) (l (.arr 3 (.vv 2) 0)) z z z) (m (.cells [(.int .i64 (.toI (.get (.vv 0) (.il 0)))), (.view 4)]) (l (.arr 64 (.vv 3) 0)) z z z) (l (.cells [(.int .i64 (.len (.get (.get (.vv 0) (.il 3)) (.il 0)))), (.view 5), (.view 6)])) (l (.arr 69 (.vv 1) 0)))⟩⟩
theorem p0 : stretch K 31 [] s0 s1 [] ⟨[(.il 0)], [], [(.vv 0), .nil, .nil], [(.cell 0 0), (.cell 0 3)]⟩ [(0, (some 0)), (1, (some 1)), (2, (some 2)), (4, none), (3, (some 3)), (5, none)] = some (s1, [.ask (.lt (.il 0) (.len (.get (.vv 0) (.il 3))))]) := by kernel_rfl
theorem p1 : stretch K 47 [true] s1 s1 [] ⟨[(.add (.iv 0) (.il 1))], [], [(.vv 0), (.snoc (.vv 1) (.snoc (.snoc (.snoc .emp (.ofI (.il 2))) .nil) (.snoc .emp (.snoc (.snoc .emp (.ofI (.sub (.toI (.get (.vv 0) (.il 0))) (.toI (.get (.vv 0) (.il 2)))))) (.ofI (.toI (.get (.vv 0) (.il 2)))))))), (.snoc (.vv 2) (.ofI (.iv 0)))], [(.cell 0 0), (.cell 1 0)]⟩ [(0, (some 0)), (1, (some 1)), (2, (some 2)), (4, (some 9)), (3, (some 3)), (5, (some 11))] = some (s1, [.ask (.lt (.iv 0) (.toI (.get (.vv 0) (.il 1)))), .ask (.and (.le (.il (-9223372036854775808)) (.sub (.toI (.get (.vv 0) (.il 0))) (.toI (.get (.vv 0) (.il 2))))) (.le (.sub (.toI (.get (.vv 0) (.il 0))) (.toI (.get (.vv 0) (.il 2)))) (.il 9223372036854775807))), .ask (.le (.add (.len (.vv 1)) (.il 1)) (.il 1256584716946)), .ask (.le (.add (.len (.vv 2)) (.il 1)) (.il 8796093021696)), .ask (.and (.le (.il (-9223372036854775808)) (.add (.iv 0) (.il 1))) (.le (.add (.iv 0) (.il 1)) (.il 9223372036854775807)))]) := by kernel_rfl
theorem p2 : stretch K 17 [false] s1 s2 [] ⟨[(.il 0)], [], [(.vv 0), (.vv 1), (.vv 2), .nil], [(.cell 0 0), (.cell 1 0), (.cell 1 0)]⟩ [(0, (some 0)), (1, (some 1)), (2, (some 2)), (4, (some 4)), (3, (some 3)), (5, (some 5)), (6, none)] = some (s2, [.ask (.not (.lt (.iv 0) (.toI (.get (.vv 0) (.il 1)))))]) := by kernel_rfl
theorem p3 : stretch K 25 [true] s2 s3 [] ⟨[(.il 0), (.il 0), (.iv 0)], [], [(.vv 0), (.vv 1), (.vv 2), (.vv 3)], [(.cell 0 0), (.cell 1 0), (.cell 2 0), (.cell 2 0)]⟩ [(0, (some 0)), (1, (some 1)), (2, (some 2)), (4, (some 4)), (3, (some 3)), (5, (some 5)), (6, (some 6))] = some (s3, [.ask (.and (.le (.il 0) (.toI (.get (.vv 0) (.il 1)))) (.le (.toI (.get (.vv 0) (.il 1))) (.il 18446744073709551615))), .ask (.le (.il 0) (.toI (.get (.vv 0) (.il 1)))), .ask (.and (.le (.il (-9223372036854775808)) (.shl .i64 (.il 1) (.toI (.get (.vv 0) (.il 1))))) (.le (.shl .i64 (.il 1) (.toI (.get (.vv 0) (.il 1)))) (.il 9223372036854775807))), .ask (.lt (.iv 0) (.shl .i64 (.il 1) (.toI (.get (.vv 0) (.il 1)))))]) := by kernel_rfl
theorem p4 : last K 15 28 [false] s2 = some ((.snoc (.snoc .emp (.ofI (.toI (.get (.vv 0) (.il 0))))) (.snoc (.vv 1) (.snoc (.snoc (.snoc .emp (.ofI (.len (.get (.get (.vv 0) (.il 3)) (.il 0))))) (.vv 2)) (.vv 3)))), [.ask (.and (.le (.il 0) (.toI (.get (.vv 0) (.il 1)))) (.le (.toI (.get (.vv 0) (.il 1))) (.il 18446744073709551615))), .ask (.le (.il 0) (.toI (.get (.vv 0) (.il 1)))), .ask (.and (.le (.il (-9223372036854775808)) (.shl .i64 (.il 1) (.toI (.get (.vv 0) (.il 1))))) (.le (.shl .i64 (.il 1) (.toI (.get (.vv 0) (.il 1)))) (.il 9223372036854775807))), .ask (.not (.lt (.iv 0) (.shl .i64 (.il 1) (.toI (.get (.vv 0) (.il 1)))))), .ask (.le (.add (.len (.vv 1)) (.il 1)) (.il 1256584716946))]) := by kernel_rfl
theorem p5 : stretch K 29 [true] s3 s3 [] ⟨[(.add (.iv 0) (.rem (.shr .i64 (.iv 2) (.iv 1)) (.il 2))), (.add (.iv 1) (.il 1)), (.iv 2)], [], [(.vv 0), (.vv 1), (.vv 2), (.vv 3)], [(.cell 0 0), (.cell 1 0), (.cell 2 0), (.cell 3 0)]⟩ [(0, (some 0)), (1, (some 1)), (2, (some 2)), (4, (some 4)), (3, (some 3)), (5, (some 5)), (6, (some 6))] = some (s3, [.ask (.lt (.iv 1) (.toI (.get (.vv 0) (.il 1)))), .ask (.and (.le (.il 0) (.iv 1)) (.le (.iv 1) (.il 18446744073709551615))), .ask (.le (.il 0) (.iv 1)), .ask (.and (.le (.il (-9223372036854775808)) (.add (.iv 0) (.rem (.shr .i64 (.iv 2) (.iv 1)) (.il 2)))) (.le (.add (.iv 0) (.rem (.shr .i64 (.iv 2) (.iv 1)) (.il 2))) (.il 9223372036854775807))), .ask (.and (.le (.il (-9223372036854775808)) (.add (.iv 1) (.il 1))) (.le (.add (.iv 1) (.il 1)) (.il 9223372036854775807)))]) := by kernel_rfl
theorem p6 : stretch K 30 [false] s3 s2 [] ⟨[(.add (.iv 2) (.il 1))], [], [(.vv 0), (.vv 1), (.vv 2), (.snoc (.vv 3) (.get (.get (.vv 0) (.il 3)) (.iv 0)))], [(.cell 0 0), (.cell 1 0), (.cell 3 0)]⟩ [(0, (some 0)), (1, (some 1)), (2, (some 2)), (4, (some 4)), (3, (some 3)), (5, (some 5)), (6, (some 8))] = some (s2, [.ask (.not (.lt (.iv 1) (.toI (.get (.vv 0) (.il 1))))), .ask (.and (.le (.il 0) (.iv 0)) (.lt (.iv 0) (.len (.get (.vv 0) (.il 3))))), .ask (.le (.add (.len (.vv 3)) (.il 1)) (.il 2932031006890)), .ask (.and (.le (.il (-9223372036854775808)) (.add (.iv 2) (.il 1))) (.le (.add (.iv 2) (.il 1)) (.il 9223372036854775807)))]) := by kernel_rfl
theorem b : sbegin prog 15 = some s0 := by kernel_rfl
end ref14_Ground
end X
namespace X
open Go Go.Abs Go.Sym
set_option linter.unusedVariables false
/-! haruspex/haruspexlaw14.LiftChecks -/
namespace LiftChecks
abbrev f : Nat := 3
noncomputable def K : Cfg := ⟨prog, pl, [], [9, 10, 11, 12, 13, 14, 15], []⟩
noncomputable def s0 : SMach := ⟨⟨3, 77, (m (.agg [(.int .u8 (.toI (.get (.vv 0) (.il 0)))), (.int .u8 (.toI (.get (.vv 0) (.il 1)))), (.int .u8 (.toI (.get (.vv 0) (.il 2)))), (.int .u8 (.toI (.get (.vv 0) (.il 3)))), (.pure 5 (.get (.vv 0) (.il 4)) (.cell 0 4))]) (l (.agg [(.int .u8 (.toI (.get (.vv 1) (.il 0)))), (.int .u8 (.toI (.get (.vv 1) (.il 1)))), (.int .u8 (.toI (.get (.vv 1) (.il 2)))), (.int .i64 (.toI (.get (.vv 1) (.il 3))))])) (l (.agg [(.int .i64 (.toI (.get (.vv 2) (.il 0)))), (.int .i64 (.toI (.get (.vv 2) (.il 1)))), (.int .i64 (.toI (.get (.vv 2) (.il 2)))), (.pure 64 (.get (.vv 2) (.il 3)) (.cell 2 3))])) z z), [.code (C 3 [])], [], .run, false, none⟩, [], ⟨0, 3, 3, z⟩⟩
noncomputable def s1 : SMach := ⟨⟨3, 77, (n (n z z z (l (.agg [(.int .i64 (.toI (.get (.get (.vv 4) (.il 0)) (.il 0)))), (.int .i64 (.toI (.get (.get (.vv 4) (.il 0)) (.il 1)))), (.int .i64 (.toI (.get (.get (.vv 4) (.il 0)) (.il 2)))), (.pure 64 (.get (.get (.vv 4) (.il 0)) (.il 3)) (.cell 5 0)), (.int .i64 (.toI (.get (.get (.vv 4) (.il 1)) (.il 0)))), (.int .i64 (.toI (.get (.get (.vv 4) (.il 1)) (.il 1)))), (.int .i64 (.toI (.get (.get (.vv 4) (.il 1)) (.il 2)))), (.pure 64 (.get (.get (.vv 4) (.il 1)) (.il 3)) (.cell 6 0)), (.int .i64 (.toI (.get (.get (.vv 4) (.il 2)) (.il 0)))), (.int .i64 (.toI (.get (.get (.vv 4) (.il 2)) (.il 1)))), (.int .i64 (.toI (.get (.get (.vv 4) (.il 2)) (.il 2)))), (.pure 64 (.get (.get (.vv 4) (.il 2)) (.il 3)) (.cell 7 0))]))) (n z z z (l (.int .i64 (.iv 0)))) z z), [.code (C 3 [1, 1, 0, 1, 0, 0]), .inLoop (C 3 [1, 1, 0, 1, 0, 0]), .inBlock 0, .code (C 3 [1, 1, 1])], [], .run, false, none⟩, [], ⟨3, 8, 5, z⟩⟩
theorem p1 : stretch K 26 [false] s0 s1 [] ⟨[(.il 0)], [], [(.vv 0), (.vv 1), (.vv 2), (.vv 3), (.vv 4)], [(.cell 0 0), (.cell 1 0), (.cell 2 0), (.cell 3 0), (.cell 4 0), (.cell 4 3), (.cell 4 7), (.cell 4 11)]⟩ [] = some (s1, [.call 9 [], .ask (.not (.not (.toB (.vv 3)))), .call 10 [(.snoc (.snoc (.snoc (.snoc (.snoc .emp (.ofI (.toI (.get (.vv 0) (.il 0))))) (.ofI (.toI (.get (.vv 0) (.il 1))))) (.ofI (.toI (.get (.vv 0) (.il 2))))) (.ofI (.toI (.get (.vv 0) (.il 3))))) (.get (.vv 0) (.il 4))), (.snoc (.snoc (.snoc (.snoc .emp (.ofI (.toI (.get (.vv 1) (.il 0))))) (.ofI (.toI (.get (.vv 1) (.il 1))))) (.ofI (.toI (.get (.vv 1) (.il 2))))) (.ofI (.toI (.get (.vv 1) (.il 3))))), (.snoc (.snoc (.snoc (.snoc .emp (.ofI (.toI (.get (.vv 2) (.il 0))))) (.ofI (.toI (.get (.vv 2) (.il 1))))) (.ofI (.toI (.get (.vv 2) (.il 2))))) (.get (.vv 2) (.il 3)))]]) := by kernel_rfl
theorem p6 : stretch K 80 [true, true, false, true, false, true, false, false] s1 s1 [] ⟨[(.il 1)], [], [(.vv 0), (.vv 1), (.vv 2), (.vv 3), (.vv 4)], [(.cell 0 0), (.cell 1 0), (.cell 2 0), (.cell 3 0), (.cell 4 0), (.cell 5 0), (.cell 6 0), (.cell 7 0)]⟩ [] = some (s1, [.ask (.lt (.iv 0) (.il 3)), .ask (.eq (.iv 0) (.il 0)), .call 11 [(.snoc (.snoc (.snoc (.snoc .emp (.ofI (.toI (.get (.get (.vv 4) (.il 0)) (.il 0))))) (.ofI (.toI (.get (.get (.vv 4) (.il 0)) (.il 1))))) (.ofI (.toI (.get (.get (.vv 4) (.il 0)) (.il 2))))) (.get (.get (.vv 4) (.il 0)) (.il 3)))], .call 12 [(.snoc (.snoc (.snoc (.snoc .emp (.ofI (.toI (.get (.get (.vv 4) (.il 0)) (.il 0))))) (.ofI (.toI (.get (.get (.vv 4) (.il 0)) (.il 1))))) (.ofI (.toI (.get (.get (.vv 4) (.il 0)) (.il 2))))) (.get (.get (.vv 4) (.il 0)) (.il 3)))], .call 13 [(.snoc (.snoc (.snoc (.snoc .emp (.ofI (.toI (.get (.get (.vv 4) (.il 0)) (.il 0))))) (.ofI (.toI (.get (.get (.vv 4) (.il 0)) (.il 1))))) (.ofI (.toI (.get (.get (.vv 4) (.il 0)) (.il 2))))) (.get (.get (.vv 4) (.il 0)) (.il 3)))], .ask (.not (.not (.beq (.eq (.toI (.vv 7)) (.il 0)) (.toB (.vv 5))))), .ask (.not (.toB (.vv 5))), .call 13 [(.snoc (.snoc (.snoc (.snoc .emp (.ofI (.toI (.get (.get (.vv 4) (.il 0)) (.il 0))))) (.ofI (.toI (.get (.get (.vv 4) (.il 0)) (.il 1))))) (.ofI (.toI (.get (.get (.vv 4) (.il 0)) (.il 2))))) (.get (.get (.vv 4) (.il 0)) (.il 3)))], .ask (.not (.not (.eq (.toI (.vv 8)) (.il 140)))), .ask (.not (.toB (.vv 5))), .ask (.not (.not (.eq (.toI (.get (.vv 6) (.il 1))) (.il 140)))), .ask (.not (.lt (.il 0) (.len (.get (.get (.vv 6) (.il 0)) (.il 1)))))]) := by kernel_rfl
theorem p18 : stretch K 88 [true, true, false, false, false, true, false, false] s1 s1 [] ⟨[(.il 1)], [], [(.vv 0), (.vv 1), (.vv 2), (.vv 3), (.vv 4)], [(.cell 0 0), (.cell 1 0), (.cell 2 0), (.cell 3 0), (.cell 4 0), (.cell 5 0), (.cell 6 0), (.cell 7 0)]⟩ [] = some (s1, [.ask (.lt (.iv 0) (.il 3)), .ask (.eq (.iv 0) (.il 0)), .call 11 [(.snoc (.snoc (.snoc (.snoc .emp (.ofI (.toI (.get (.get (.vv 4) (.il 0)) (.il 0))))) (.ofI (.toI (.get (.get (.vv 4) (.il 0)) (.il 1))))) (.ofI (.toI (.get (.get (.vv 4) (.il 0)) (.il 2))))) (.get (.get (.vv 4) (.il 0)) (.il 3)))], .call 12 [(.snoc (.snoc (.snoc (.snoc .emp (.ofI (.toI (.get (.get (.vv 4) (.il 0)) (.il 0))))) (.ofI (.toI (.get (.get (.vv 4) (.il 0)) (.il 1))))) (.ofI (.toI (.get (.get (.vv 4) (.il 0)) (.il 2))))) (.get (.get (.vv 4) (.il 0)) (.il 3)))], .call 13 [(.snoc (.snoc (.snoc (.snoc .emp (.ofI (.toI (.get (.get (.vv 4) (.il 0)) (.il 0))))) (.ofI (.toI (.get (.get (.vv 4) (.il 0)) (.il 1))))) (.ofI (.toI (.get (.get (.vv 4) (.il 0)) (.il 2))))) (.get (.get (.vv 4) (.il 0)) (.il 3)))], .ask (.not (.not (.beq (.eq (.toI (.vv 7)) (.il 0)) (.toB (.vv 5))))), .ask (.not (.not (.toB (.vv 5)))), .ask (.not (.not (.toB (.vv 5)))), .ask (.lt (.il 7) (.toI (.get (.get (.vv 4) (.il 0)) (.il 1)))), .ask (.not (.not (.eq (.toI (.get (.vv 6) (.il 1))) (.il 6)))), .ask (.not (.lt (.il 0) (.len (.get (.get (.vv 6) (.il 0)) (.il 1)))))]) := by kernel_rfl
theorem p21 : stretch K 90 [true, true, false, false, false, false, false, false] s1 s1 [] ⟨[(.il 1)], [], [(.vv 0), (.vv 1), (.vv 2), (.vv 3), (.vv 4)], [(.cell 0 0), (.cell 1 0), (.cell 2 0), (.cell 3 0), (.cell 4 0), (.cell 5 0), (.cell 6 0), (.cell 7 0)]⟩ [] = some (s1, [.ask (.lt (.iv 0) (.il 3)), .ask (.eq (.iv 0) (.il 0)), .call 11 [(.snoc (.snoc (.snoc (.snoc .emp (.ofI (.toI (.get (.get (.vv 4) (.il 0)) (.il 0))))) (.ofI (.toI (.get (.get (.vv 4) (.il 0)) (.il 1))))) (.ofI (.toI (.get (.get (.vv 4) (.il 0)) (.il 2))))) (.get (.get (.vv 4) (.il 0)) (.il 3)))], .call 12 [(.snoc (.snoc (.snoc (.snoc .emp (.ofI (.toI (.get (.get (.vv 4) (.il 0)) (.il 0))))) (.ofI (.toI (.get (.get (.vv 4) (.il 0)) (.il 1))))) (.ofI (.toI (.get (.get (.vv 4) (.il 0)) (.il 2))))) (.get (.get (.vv 4) (.il 0)) (.il 3)))], .call 13 [(.snoc (.snoc (.snoc (.snoc .emp (.ofI (.toI (.get (.get (.vv 4) (.il 0)) (.il 0))))) (.ofI (.toI (.get (.get (.vv 4) (.il 0)) (.il 1))))) (.ofI (.toI (.get (.get (.vv 4) (.il 0)) (.il 2))))) (.get (.get (.vv 4) (.il 0)) (.il 3)))], .ask (.not (.not (.beq (.eq (.toI (.vv 7)) (.il 0)) (.toB (.vv 5))))), .ask (.not (.not (.toB (.vv 5)))), .ask (.not (.not (.toB (.vv 5)))), .ask (.not (.lt (.il 7) (.toI (.get (.get (.vv 4) (.il 0)) (.il 1))))), .ask (.not (.not (.eq (.toI (.get (.vv 6) (.il 1))) (.il 0)))), .call 15 [(.snoc (.snoc (.snoc (.snoc .emp (.ofI (.toI (.get (.get (.vv 4) (.il 0)) (.il 0))))) (.ofI (.toI (.get (.get (.vv 4) (.il 0)) (.il 1))))) (.ofI (.toI (.get (.get (.vv 4) (.il 0)) (.il 2))))) (.get (.get (.vv 4) (.il 0)) (.il 3)))], .call 14 [(.snoc (.snoc .emp (.ofI (.toI (.get (.get (.vv 6) (.il 0)) (.il 0))))) (.get (.get (.vv 6) (.il 0)) (.il 1))), (.snoc (.snoc .emp (.ofI (.toI (.get (.vv 8) (.il 0))))) (.get (.vv 8) (.il 1)))], .ask (.not (.not (.toB (.vv 9))))]) := by kernel_rfl
theorem p26 : stretch K 80 [true, false, true, false, true, false, true, false, false] s1 s1 [] ⟨[(.il 2)], [], [(.vv 0), (.vv 1), (.vv 2), (.vv 3), (.vv 4)], [(.cell 0 0), (.cell 1 0), (.cell 2 0), (.cell 3 0), (.cell 4 0), (.cell 5 0), (.cell 6 0), (.cell 7 0)]⟩ [] = some (s1, [.ask (.lt (.iv 0) (.il 3)), .ask (.not (.eq (.iv 0) (.il 0))), .ask (.eq (.iv 0) (.il 1)), .call 11 [(.snoc (.snoc (.snoc (.snoc .emp (.ofI (.toI (.get (.get (.vv 4) (.il 1)) (.il 0))))) (.ofI (.toI (.get (.get (.vv 4) (.il 1)) (.il 1))))) (.ofI (.toI (.get (.get (.vv 4) (.il 1)) (.il 2))))) (.get (.get (.vv 4) (.il 1)) (.il 3)))], .call 12 [(.snoc (.snoc (.snoc (.snoc .emp (.ofI (.toI (.get (.get (.vv 4) (.il 1)) (.il 0))))) (.ofI (.toI (.get (.get (.vv 4) (.il 1)) (.il 1))))) (.ofI (.toI (.get (.get (.vv 4) (.il 1)) (.il 2))))) (.get (.get (.vv 4) (.il 1)) (.il 3)))], .call 13 [(.snoc (.snoc (.snoc (.snoc .emp (.ofI (.toI (.get (.get (.vv 4) (.il 1)) (.il 0))))) (.ofI (.toI (.get (.get (.vv 4) (.il 1)) (.il 1))))) (.ofI (.toI (.get (.get (.vv 4) (.il 1)) (.il 2))))) (.get (.get (.vv 4) (.il 1)) (.il 3)))], .ask (.not (.not (.beq (.eq (.toI (.vv 7)) (.il 0)) (.toB (.vv 5))))), .ask (.not (.toB (.vv 5))), .call 13 [(.snoc (.snoc (.snoc (.snoc .emp (.ofI (.toI (.get (.get (.vv 4) (.il 1)) (.il 0))))) (.ofI (.toI (.get (.get (.vv 4) (.il 1)) (.il 1))))) (.ofI (.toI (.get (.get (.vv 4) (.il 1)) (.il 2))))) (.get (.get (.vv 4) (.il 1)) (.il 3)))], .ask (.not (.not (.eq (.toI (.vv 8)) (.il 140)))), .ask (.not (.toB (.vv 5))), .ask (.not (.not (.eq (.toI (.get (.vv 6) (.il 1))) (.il 140)))), .ask (.not (.lt (.il 0) (.len (.get (.get (.vv 6) (.il 0)) (.il 1)))))]) := by kernel_rfl
theorem p38 : stretch K 88 [true, false, true, false, false, false, true, false, false] s1 s1 [] ⟨[(.il 2)], [], [(.vv 0), (.vv 1), (.vv 2), (.vv 3), (.vv 4)], [(.cell 0 0), (.cell 1 0), (.cell 2 0), (.cell 3 0), (.cell 4 0), (.cell 5 0), (.cell 6 0), (.cell 7 0)]⟩ [] = some (s1, [.ask (.lt (.iv 0) (.il 3)), .ask (.not (.eq (.iv 0) (.il 0))), .ask (.eq (.iv 0) (.il 1)), .call 11 [(.snoc (.snoc (.snoc (.snoc .emp (.ofI (.toI (.get (.get (.vv 4) (.il 1)) (.il 0))))) (.ofI (.toI (.get (.get (.vv 4) (.il 1)) (.il 1))))) (.ofI (.toI (.get (.get (.vv 4) (.il 1)) (.il 2))))) (.get (.get (.vv 4) (.il 1)) (.il 3)))], .call 12 [(.snoc (.snoc (.snoc (.snoc .emp (.ofI (.toI (.get (.get (.vv 4) (.il 1)) (.il 0))))) (.ofI (.toI (.get (.get (.vv 4) (.il 1)) (.il 1))))) (.ofI (.toI (.get (.get (.vv 4) (.il 1)) (.il 2))))) (.get (.get (.vv 4) (.il 1)) (.il 3)))], .call 13 [(.snoc (.snoc (.snoc (.snoc .emp (.ofI (.toI (.get (.get (.vv 4) (.il 1)) (.il 0))))) (.ofI (.toI (.get (.get (.vv 4) (.il 1)) (.il 1))))) (.ofI (.toI (.get (.get (.vv 4) (.il 1)) (.il 2))))) (.get (.get (.vv 4) (.il 1)) (.il 3)))], .ask (.not (.not (.beq (.eq (.toI (.vv 7)) (.il 0)) (.toB (.vv 5))))), .ask (.not (.not (.toB (.vv 5)))), .ask (.not (.not (.toB (.vv 5)))), .ask (.lt (.il 7) (.toI (.get (.get (.vv 4) (.il 1)) (.il 1)))), .ask (.not (.not (.eq (.toI (.get (.vv 6) (.il 1))) (.il 6)))), .ask (.not (.lt (.il 0) (.len (.get (.get (.vv 6) (.il 0)) (.il 1)))))]) := by kernel_rfl
theorem p41 : stretch K 90 [true, false, true, false, false, false, false, false, false] s1 s1 [] ⟨[(.il 2)], [], [(.vv 0), (.vv 1), (.vv 2), (.vv 3), (.vv 4)], [(.cell 0 0), (.cell 1 0), (.cell 2 0), (.cell 3 0), (.cell 4 0), (.cell 5 0), (.cell 6 0), (.cell 7 0)]⟩ [] = some (s1, [.ask (.lt (.iv 0) (.il 3)), .ask (.not (.eq (.iv 0) (.il 0))), .ask (.eq (.iv 0) (.il 1)), .call 11 [(.snoc (.snoc (.snoc (.snoc .emp (.ofI (.toI (.get (.get (.vv 4) (.il 1)) (.il 0))))) (.ofI (.toI (.get (.get (.vv 4) (.il 1)) (.il 1))))) (.ofI (.toI (.get (.get (.vv 4) (.il 1)) (.il 2))))) (.get (.get (.vv 4) (.il 1)) (.il 3)))], .call 12 [(.snoc (.snoc (.snoc (.snoc .emp (.ofI (.toI (.get (.get (.vv 4) (.il 1)) (.il 0))))) (.ofI (.toI (.get (.get (.vv 4) (.il 1)) (.il 1))))) (.ofI (.toI (.get (.get (.vv 4) (.il 1)) (.il 2))))) (.get (.get (.vv 4) (.il 1)) (.il 3)))], .call 13 [(.snoc (.snoc (.snoc (.snoc .emp (.ofI (.toI (.get (.get (.vv 4) (.il 1)) (.il 0))))) (.ofI (.toI (.get (.get (.vv 4) (.il 1)) (.il 1))))) (.ofI (.toI (.get (.get (.vv 4) (.il 1)) (.il 2))))) (.get (.get (.vv 4) (.il 1)) (.il 3)))], .ask (.not (.not (.beq (.eq (.toI (.vv 7)) (.il 0)) (.toB (.vv 5))))), .ask (.not (.not (.toB (.vv 5)))), .ask (.not (.not (.toB (.vv 5)))), .ask (.not (.lt (.il 7) (.toI (.get (.get (.vv 4) (.il 1)) (.il 1))))), .ask (.not (.not (.eq (.toI (.get (.vv 6) (.il 1))) (.il 0)))), .call 15 [(.snoc (.snoc (.snoc (.snoc .emp (.ofI (.toI (.get (.get (.vv 4) (.il 1)) (.il 0))))) (.ofI (.toI (.get (.get (.vv 4) (.il 1)) (.il 1))))) (.ofI (.toI (.get (.get (.vv 4) (.il 1)) (.il 2))))) (.get (.get (.vv 4) (.il 1)) (.il 3)))], .call 14 [(.snoc (.snoc .emp (.ofI (.toI (.get (.get (.vv 6) (.il 0)) (.il 0))))) (.get (.get (.vv 6) (.il 0)) (.il 1))), (.snoc (.snoc .emp (.ofI (.toI (.get (.vv 8) (.il 0))))) (.get (.vv 8) (.il 1)))], .ask (.not (.not (.toB (.vv 9))))]) := by kernel_rfl
theorem p46 : stretch K 80 [true, false, false, true, false, true, false, true, false, false] s1 s1 [] ⟨[(.il 3)], [], [(.vv 0), (.vv 1), (.vv 2), (.vv 3), (.vv 4)], [(.cell 0 0), (.cell 1 0), (.cell 2 0), (.cell 3 0), (.cell 4 0), (.cell 5 0), (.cell 6 0), (.cell 7 0)]⟩ [] = some (s1, [.ask (.lt (.iv 0) (.il 3)), .ask (.not (.eq (.iv 0) (.il 0))), .ask (.not (.eq (.iv 0) (.il 1))), .ask (.eq (.iv 0) (.il 2)), .call 11 [(.snoc (.snoc (.snoc (.snoc .emp (.ofI (.toI (.get (.get (.vv 4) (.il 2)) (.il 0))))) (.ofI (.toI (.get (.get (.vv 4) (.il 2)) (.il 1))))) (.ofI (.toI (.get (.get (.vv 4) (.il 2)) (.il 2))))) (.get (.get (.vv 4) (.il 2)) (.il 3)))], .call 12 [(.snoc (.snoc (.snoc (.snoc .emp (.ofI (.toI (.get (.get (.vv 4) (.il 2)) (.il 0))))) (.ofI (.toI (.get (.get (.vv 4) (.il 2)) (.il 1))))) (.ofI (.toI (.get (.get (.vv 4) (.il 2)) (.il 2))))) (.get (.get (.vv 4) (.il 2)) (.il 3)))], .call 13 [(.snoc (.snoc (.snoc (.snoc .emp (.ofI (.toI (.get (.get (.vv 4) (.il 2)) (.il 0))))) (.ofI (.toI (.get (.get (.vv 4) (.il 2)) (.il 1))))) (.ofI (.toI (.get (.get (.vv 4) (.il 2)) (.il 2))))) (.get (.get (.vv 4) (.il 2)) (.il 3)))], .ask (.not (.not (.beq (.eq (.toI (.vv 7)) (.il 0)) (.toB (.vv 5))))), .ask (.not (.toB (.vv 5))), .call 13 [(.snoc (.snoc (.snoc (.snoc .emp (.ofI (.toI (.get (.get (.vv 4) (.il 2)) (.il 0))))) (.ofI (.toI (.get (.get (.vv 4) (.il 2)) (.il 1))))) (.ofI (.toI (.get (.get (.vv 4) (.il 2)) (.il 2))))) (.get (.get (.vv 4) (.il 2)) (.il 3)))], .ask (.not (.not (.eq (.toI (.vv 8)) (.il 140)))), .ask (.not (.toB (.vv 5))), .ask (.not (.not (.eq (.toI (.get (.vv 6) (.il 1))) (.il 140)))), .ask (.not (.lt (.il 0) (.len (.get (.get (.vv 6) (.il 0)) (.il 1)))))]) := by kernel_rfl
theorem p58 : stretch K 88 [true, false, false, true, false, false, false, true, false, false] s1 s1 [] ⟨[(.il 3)], [], [(.vv 0), (.vv 1), (.vv 2), (.vv 3), (.vv 4)], [(.cell 0 0), (.cell 1 0), (.cell 2 0), (.cell 3 0), (.cell 4 0), (.cell 5 0), (.cell 6 0), (.cell 7 0)]⟩ [] = some (s1, [.ask (.lt (.iv 0) (.il 3)), .ask (.not (.eq (.iv 0) (.il 0))), .ask (.not (.eq (.iv 0) (.il 1))), .ask (.eq (.iv 0) (.il 2)), .call 11 [(.snoc (.snoc (.snoc (.snoc .emp (.ofI (.toI (.get (.get (.vv 4) (.il 2)) (.il 0))))) (.ofI (.toI (.get (.get (.vv 4) (.il 2)) (.il 1))))) (.ofI (.toI (.get (.get (.vv 4) (.il 2)) (.il 2))))) (.get (.get (.vv 4) (.il 2)) (.il 3)))], .call 12 [(.snoc (.snoc (.snoc (.snoc .emp (.ofI (.toI (.get (.get (.vv 4) (.il 2)) (.il 0))))) (.ofI (.toI (.get (.get (.vv 4) (.il 2)) (.il 1))))) (.ofI (.toI (.get (.get (.vv 4) (.il 2)) (.il 2))))) (.get (.get (.vv 4) (.il 2)) (.il 3)))], .call 13 [(.snoc (.snoc (.snoc (.snoc .emp (.ofI (.toI (.get (.get (.vv 4) (.il 2)) (.il 0))))) (.ofI (.toI (.get (.get (.vv 4) (.il 2)) (.il 1))))) (.ofI (.toI (.get (.get (.vv 4) (.il 2)) (.il 2))))) (.get (.get (.vv 4) (.il 2)) (.il 3)))], .ask (.not (.not (.beq (.eq (.toI (.vv 7)) (.il 0)) (.toB (.vv 5))))), .ask (.not (.not (.toB (.vv 5)))), .ask (.not (.not (.toB (.vv 5)))), .ask (.lt (.il 7) (.toI (.get (.get (.vv 4) (.il 2)) (.il 1)))), .ask (.not (.not (.eq (.toI (.get (.vv 6) (.il 1))) (.il 6)))), .ask (.not (.lt (.il 0) (.len (.get (.get (.vv 6) (.il 0)) (.il 1)))))]) := by kernel_rfl
theorem p61 : stretch K 90 [true, false, false, true, false, false, false, false, false, false] s1 s1 [] ⟨[(.il 3)], [], [(.vv 0), (.vv 1), (.vv 2), (.vv 3), (.vv 4)], [(.cell 0 0), (.cell 1 0), (.cell 2 0), (.cell 3 0), (.cell 4 0), (.cell 5 0), (.cell 6 0), (.cell 7 0)]⟩ [] = some (s1, [.ask (.lt (.iv 0) (.il 3)), .ask (.not (.eq (.iv 0) (.il 0))), .ask (.not (.eq (.iv 0) (.il 1))), .ask (.eq (.iv 0) (.il 2)), .call 11 [(.snoc (.snoc (.snoc (.snoc .emp (.ofI (.toI (.get (.get (.vv 4) (.il 2)) (.il 0))))) (.ofI (.toI (.get (.get (.vv 4) (.il 2)) (.il 1))))) (.ofI (.toI (.get (.get (.vv 4) (.il 2)) (.il 2))))) (.get (.get (.vv 4) (.il 2)) (.il 3)))], .call 12 [(.snoc (.snoc (.snoc (.snoc .emp (.ofI (.toI (.get (.get (.vv 4) (.il 2)) (.il 0))))) (.ofI (.toI (.get (.get (.vv 4) (.il 2)) (.il 1))))) (.ofI (.toI (.get (.get (.vv 4) (.il 2)) (.il 2))))) (.get (.get (.vv 4) (.il 2)) (.il 3)))], .call 13 [(.snoc (.snoc (.snoc (.snoc .emp (.ofI (.toI (.get (.get (.vv 4) (.il 2)) (.il 0))))) (.ofI (.toI (.get (.get (.vv 4) (.il 2)) (.il 1))))) (.ofI (.toI (.get (.get (.vv 4) (.il 2)) (.il 2))))) (.get (.get (.vv 4) (.il 2)) (.il 3)))], .ask (.not (.not (.beq (.eq (.toI (.vv 7)) (.il 0)) (.toB (.vv 5))))), .ask (.not (.not (.toB (.vv 5)))), .ask (.not (.not (.toB (.vv 5)))), .ask (.not (.lt (.il 7) (.toI (.get (.get (.vv 4) (.il 2)) (.il 1))))), .ask (.not (.not (.eq (.toI (.get (.vv 6) (.il 1))) (.il 0)))), .call 15 [(.snoc (.snoc (.snoc (.snoc .emp (.ofI (.toI (.get (.get (.vv 4) (.il 2)) (.il 0))))) (.ofI (.toI (.get (.get (.vv 4) (.il 2)) (.il 1))))) (.ofI (.toI (.get (.get (.vv 4) (.il 2)) (.il 2))))) (.get (.get (.vv 4) (.il 2)) (.il 3)))], .call 14 [(.snoc (.snoc .emp (.ofI (.toI (.get (.get (.vv 6) (.il 0)) (.il 0))))) (.get (.get (.vv 6) (.il 0)) (.il 1))), (.snoc (.snoc .emp (.ofI (.toI (.get (.vv 8) (.il 0))))) (.get (.vv 8) (.il 1)))], .ask (.not (.not (.toB (.vv 9))))]) := by kernel_rfl
theorem p62 : last K 3 12 [false] s1 = some ((.ofB (.bl true)), [.ask (.not (.lt (.iv 0) (.il 3)))]) := by kernel_rfl
theorem b : sbegin prog 3 = some s0 := by kernel_rfl
end LiftChecks
end X
namespace X
end X

namespace X
open Go Go.Abs Go.Sym
set_option linter.unusedVariables false
theorem plain0 : (prog.funcs.toList.all fun fn => !(fn.name == "runtime.NumGoroutine")) = true := by kernel_rfl
theorem progOk : Go.Abs.ProgOk prog := ⟨by kernel_rfl, fun f fn e => by
  have h := plain0
  simp only [List.all_eq_true, Bool.not_eq_true'] at h
  exact h fn (Array.mem_toList_iff.2 (Array.mem_of_getElem? e))⟩

end X
/- Contracts of the reference's numbers. -/

namespace X
open Go Go.Abs Go.Sym
set_option linter.unusedVariables false
set_option linter.unusedSimpArgs false


def cmpN (m n : Nat) : Int := if m < n then -1 else if n < m then 1 else 0
end X
namespace X
open Go Go.Abs Go.Sym
set_option linter.unusedVariables false
set_option linter.unusedSimpArgs false

end X
namespace X
open Go Go.Abs Go.Sym
set_option linter.unusedVariables false
set_option linter.unusedSimpArgs false
end X
namespace X
open Go Go.Abs Go.Sym
set_option linter.unusedVariables false
set_option linter.unusedSimpArgs false

end X
namespace X
open Go Go.Abs Go.Sym
set_option linter.unusedVariables false
set_option linter.unusedSimpArgs false

end X
namespace X
open Go Go.Abs Go.Sym
set_option linter.unusedVariables false
set_option linter.unusedSimpArgs false

def big : Nat := 4611686018427387903
/-- A fraction. -/
def qV (neg : Bool) (n d : Nat) : V := .list [.int (if neg then -(n : Int) else n), .int d]
/-- What a numerator and a denominator make. -/
def madeV (neg : Bool) (n d : Nat) : V :=
  if n / n.gcd d ≤ big ∧ d / n.gcd d ≤ big then .list [qV neg (n / n.gcd d) (d / n.gcd d), .bool true] else .list [.list [.int 0, .int 0], .bool false]
def negQ (n d : Int) : Bool := !((decide (n < 0)) == (decide (d < 0)))
def madeI (n d : Int) : V := madeV (negQ n d) n.natAbs d.natAbs
def ofQ (n d : Int) : V :=
  if n.natAbs / n.natAbs.gcd d.natAbs ≤ big ∧ d.natAbs / n.natAbs.gcd d.natAbs ≤ big then qV (negQ n d) (n.natAbs / n.natAbs.gcd d.natAbs) (d.natAbs / n.natAbs.gcd d.natAbs) else .list [.int 0, .int 0]
end X
namespace X
open Go Go.Abs Go.Sym
set_option linter.unusedVariables false
set_option linter.unusedSimpArgs false

end X
namespace X
open Go Go.Abs Go.Sym
set_option linter.unusedVariables false
set_option linter.unusedSimpArgs false

/-- A valid lifted model. -/
structure LMod (R : V) (G n o k : Nat) (rows : List (List Nat)) : Prop where
  g1 : 1 ≤ G
  g2 : G ≤ 20
  n1 : 1 ≤ n
  n2 : n ≤ 10
  o1 : o ≤ G
  k1 : 2 ≤ k
  k2 : k ≤ 4
  len : rows.length = n + 1
  rlen : R.els.length = n + 1
  row : ∀ (j : Nat) (r : List Nat), rows[j]? = some r → Ints (R.get (j : Int)) r ∧ r.length = k ∧ r.sum = G
def lv (G n o : Nat) (R : V) : V := .list [.int G, .int n, .int o, R]
def cv (l : V) (z e : Nat) (c : Int) : V := .list [l, .int z, .int e, .int c]

theorem sum_take (r : List Nat) (i d : Nat) (h : r[i]? = some d) : (r.take (i + 1)).sum = (r.take i).sum + d := by
  rw [List.take_add_one, h]; simp
theorem le_sum {r : List Nat} {d : Nat} (h : d ∈ r) : d ≤ r.sum := by
  induction r with
  | nil => cases h
  | cons a r ih =>
    simp only [List.sum_cons]
    rcases List.mem_cons.1 h with rfl | h
    · omega
    · have := ih h; omega
theorem take_sum_le (r : List Nat) (i : Nat) : (r.take i).sum ≤ r.sum := by
  conv => rhs; rw [← List.take_append_drop i r, List.sum_append]
  omega
theorem valid_spec {R : V} {G n o k : Nat} {rows : List (List Nat)} (M : LMod R G n o k rows) : Fn prog lift_valid.f [lv G n o R] (.bool true) := by
  obtain ⟨g1, g2, n1, n2, o1, k1, k2, len, rlen, row⟩ := M
  have hR : R.len = (n + 1 : Int) := by simp [V.len, rlen]
  obtain ⟨r0, hr0⟩ : ∃ r, rows[0]? = some r := ⟨_, List.getElem?_eq_getElem (by omega)⟩
  have row0 := row 0 r0 hr0
  have l0 := row0.1.len
  have l0' : (R.get 0).len = k := by rw [row0.2.1] at l0; exact l0
  have inner : ∀ (j : Nat) (r : List Nat), rows[j]? = some r → (Comes lift_valid.K lift_valid.f lift_valid.s1 ⟨[(j : Int) + 1], [], [lv G n o R]⟩ (.bool true)) → ∀ (t i : Nat) (s' i' : Int), t + i = r.length → i' = i → s' = ((r.take i).sum : Nat) → Comes lift_valid.K lift_valid.f lift_valid.s2 ⟨[s', i', (j : Int), (R.get (j : Int)).len], [], [lv G n o R, R.get (j : Int), R.get (j : Int)]⟩ (.bool true) := by
    intro j r hr H t
    obtain ⟨hi1, hi2, hi3⟩ := row j r hr
    have hlen := hi1.len
    have hj : j < rows.length := (List.getElem?_eq_some_iff.1 hr).1
    induction t with
    | zero =>
      intro i s' i' ht hi hs
      have : i = r.length := by omega
      subst this hi hs
      rw [List.take_length, hi3]
      refine Comes.step progOk lift_valid.p17 [] ?_ H
      simp only [EvOk, E.b, E.i, E.v, Env.ext, List.cons_append, List.nil_append, List.append_nil, List.getD_cons_zero, List.getD_cons_succ, V.toI, lv, ltB_iff, leB_iff, eqB_iff, ltB_not, Bool.not_eq_true', Bool.not_eq_false', Bool.not_not, Bool.and_eq_true, and_true]
      have e1 : (V.list [V.int ↑G, V.int ↑n, V.int ↑o, R]).get 3 = R := rfl
      have e2 : (V.list [V.int ↑G, V.int ↑n, V.int ↑o, R]).get 0 = .int G := rfl
      simp only [e1, e2, l0', hlen, hi2, true_and, hi3]
      omega
    | succ t ih =>
      intro i s' i' ht hi hs
      subst hi hs
      obtain ⟨d, hd⟩ : ∃ e, r[i]? = some e := ⟨_, List.getElem?_eq_getElem (by omega)⟩
      have gd := hi1.get hd
      have hdG : d ≤ G := hi3 ▸ le_sum (List.mem_of_getElem? hd)
      have hs1 := sum_take r i d hd
      have hs2 := take_sum_le r (i + 1)
      refine Comes.step progOk lift_valid.p14 [] ?_ (ih (i + 1) (((r.take i).sum : Nat) + ((R.get (j : Int)).get (i : Int)).toI) ((i : Int) + 1) (by omega) (by omega) (by rw [gd, hs1]; omega))
      simp only [EvOk, E.b, E.i, E.v, Env.ext, List.cons_append, List.nil_append, List.append_nil, List.getD_cons_zero, List.getD_cons_succ, lv, ltB_iff, leB_iff, eqB_iff, ltB_not, Bool.not_eq_true', Bool.not_eq_false', Bool.not_not, Bool.and_eq_true, and_true]
      have e2 : ((V.list [V.int ↑G, V.int ↑n, V.int ↑o, R]).get 0).toI = G := rfl
      simp only [e2, gd, hlen]
      omega
  have outer : ∀ (t j : Nat) (j' : Int), t + j = n + 1 → j' = j → Comes lift_valid.K lift_valid.f lift_valid.s1 ⟨[j'], [], [lv G n o R]⟩ (.bool true) := by
    intro t
    induction t with
    | zero =>
      intro j j' ht hj
      subst hj
      refine Comes.last progOk lift_valid.p11 [] ?_ ?_
      · simp only [EvOk, E.b, E.i, E.v, Env.ext, List.cons_append, List.nil_append, List.append_nil, List.getD_cons_zero, List.getD_cons_succ, lv, Bool.not_eq_true', ltB_not, and_true]
        have e1 : (V.list [V.int ↑G, V.int ↑n, V.int ↑o, R]).get 3 = R := rfl
        simp only [e1, hR]
        omega
      · simp [EvOk, E.b, E.i, E.v, Env.ext, Sub.ev, ltB_iff, leB_iff, eqB_iff, eqB_not, ltB_not, leB_not]
    | succ t ih =>
      intro j j' ht hj
      subst hj
      obtain ⟨r, hr⟩ : ∃ e, rows[j]? = some e := ⟨_, List.getElem?_eq_getElem (by omega)⟩
      have k := inner j r hr (ih (j + 1) ((j : Int) + 1) (by omega) (by omega)) r.length 0 0 0 (by omega) rfl rfl
      refine Comes.step progOk lift_valid.p10 [] ?_ k
      simp only [EvOk, E.b, E.i, E.v, Env.ext, List.cons_append, List.nil_append, List.append_nil, List.getD_cons_zero, List.getD_cons_succ, lv, ltB_iff, leB_iff, Bool.and_eq_true, and_true]
      have e1 : (V.list [V.int ↑G, V.int ↑n, V.int ↑o, R]).get 3 = R := rfl
      simp only [e1, hR]
      omega
  refine Fn.of (C := lift_valid.K) lift_valid.b (Comes.step progOk lift_valid.p9 [] ?_ (outer (n + 1) 0 0 (by omega) rfl))
  simp only [EvOk, E.b, E.i, E.v, Env.ext, List.cons_append, List.nil_append, List.append_nil, List.getD_cons_zero, List.getD_cons_succ, lv, ltB_iff, leB_iff, eqB_iff, ltB_not, Bool.not_eq_true', Bool.not_eq_false', Bool.not_not, Bool.and_eq_true, and_true]
  have e1 : (V.list [V.int ↑G, V.int ↑n, V.int ↑o, R]).get 3 = R := rfl
  have e2 : ((V.list [V.int ↑G, V.int ↑n, V.int ↑o, R]).get 0).toI = G := rfl
  have e3 : ((V.list [V.int ↑G, V.int ↑n, V.int ↑o, R]).get 1).toI = n := rfl
  have e4 : ((V.list [V.int ↑G, V.int ↑n, V.int ↑o, R]).get 2).toI = o := rfl
  simp only [e1, e2, e3, e4, hR, l0', true_and]
  omega
end X
namespace X
open Go Go.Abs Go.Sym
set_option linter.unusedVariables false
set_option linter.unusedSimpArgs false

def bin : Nat → Nat → Nat
  | _, 0 => 1
  | 0, _ + 1 => 0
  | n + 1, k + 1 => bin n k + bin n (k + 1)
/-- What is known of the child. -/
def shw (G : Nat) (rows : List (List Nat)) (c : Int) (j : Nat) : Nat := if c < 0 then G else ((rows[j]?.getD [])[c.toNat]?.getD 0)
/-- The weight of j ones, with e ones and m unknown ones. -/
def wt (G n o : Nat) (rows : List (List Nat)) (c : Int) (e m j : Nat) : Nat := if e ≤ j ∧ j ≤ e + m then bin m (j - e) * o ^ j * (G - o) ^ (n - j) * shw G rows c j else 0
def wts (G n o : Nat) (rows : List (List Nat)) (c : Int) (e m : Nat) : List Nat := (List.range (n + 1)).map (wt G n o rows c e m)

theorem map_set (n i d : Nat) (f g : Nat → Nat) (h : ∀ j, g j = if j = i then d else f j) : ((List.range n).map f).set i d = (List.range n).map g := by
  apply List.ext_getElem?
  intro j
  rw [List.getElem?_set]
  by_cases hj : j < n
  · simp [hj, h]
    by_cases q : i = j
    · subst q; simp [hj]
    · simp [q, Ne.symm q]
  · simp [hj]
    intro q; omega
end X
namespace X
open Go Go.Abs Go.Sym
set_option linter.unusedVariables false
set_option linter.unusedSimpArgs false

theorem toI_int' (z : Int) : (V.int z).toI = z := rfl
theorem evL : (∀ {α β : Type} {f : α → β} {a : α} {l : List α}, List.map f (a :: l) = f a :: List.map f l) ∧ (∀ {α β : Type} {f : α → β}, List.map f [] = []) ∧ (∀ {α : Type} {a : α} {k l : List α}, (a :: k) ++ l = a :: (k ++ l)) ∧ (∀ {α : Type} (l : List α), [] ++ l = l) ∧ (∀ {α : Type} (l : List α), l ++ [] = l) ∧ (∀ {α : Type} {x d : α} {xs : List α}, (x :: xs).getD 0 d = x) ∧ (∀ {α : Type} {x d : α} {xs : List α} {n : Nat}, (x :: xs).getD (n + 1) d = xs.getD n d) ∧ (∀ z : Int, (V.int z).toI = z) ∧ (∀ b : Bool, (V.bool b).toB = b) ∧ (∀ {a b : Int}, ltB a b = true ↔ a < b) ∧ (∀ {a b : Int}, leB a b = true ↔ a ≤ b) ∧ (∀ {a b : Int}, eqB a b = true ↔ a = b) ∧ (∀ {a b : Int}, eqB a b = false ↔ ¬ a = b) ∧ (∀ {a b : Int}, ltB a b = false ↔ b ≤ a) ∧ (∀ {a b : Int}, leB a b = false ↔ b < a) ∧ (∀ b : Bool, ((!b) = true) = (b = false)) ∧ (∀ b : Bool, ((!b) = false) = (b = true)) ∧ (∀ b : Bool, (!!b) = b) ∧ (∀ a b : Bool, ((a && b) = true) = (a = true ∧ b = true)) ∧ (∀ p : Prop, (p ∧ True) = p) ∧ (∀ p : Prop, (True ∧ p) = p) :=
  ⟨by simp, by simp, by simp, by simp, by simp, by simp, by simp, by simp [V.toI], by simp [V.toB], ltB_iff, leB_iff, eqB_iff, eqB_not, ltB_not, leB_not, by simp, by simp, by simp, by simp, by simp, by simp⟩
/-- conditions, worked out -/

def qn (n d : Nat) : V := .list [.int n, .int d]
def can (a b : Nat) : V := qn (a / a.gcd b) (b / a.gcd b)
end X
namespace X
open Go Go.Abs Go.Sym
set_option linter.unusedVariables false
set_option linter.unusedSimpArgs false

end X
namespace X
open Go Go.Abs Go.Sym
set_option linter.unusedVariables false
set_option linter.unusedSimpArgs false

def Qs (r : V) (l : List V) : Prop := r.els = l
end X
namespace X
open Go Go.Abs Go.Sym
set_option linter.unusedVariables false
set_option linter.unusedSimpArgs false

end X
namespace X
open Go Go.Abs Go.Sym
set_option linter.unusedVariables false
set_option linter.unusedSimpArgs false

theorem Split_spec {a : V} {l : List Nat} (ha : Ints a l) (hl : ∀ x ∈ l, x ≤ 255) {n G : Nat} (n1 : 1 ≤ n) (n2 : n ≤ 1000) (hG : G ≤ 1000) : ∃ r L, Ints r L ∧ L.length = n ∧ L.sum = G ∧ Fn prog Split.f [.int n, .int G, a] r := by
  have la := ha.len
  have loop : ∀ (t i left : Nat) (i' left' : Int) (out : V) (L : List Nat), t + i = n → i' = i → left' = left → Ints out L → L.length = i → L.sum + left = G → (t = 0 → left = 0) → ∃ r, (∃ L, Ints r L ∧ L.length = n ∧ L.sum = G) ∧ Comes Split.K Split.f Split.s1 ⟨[left', i'], [], [.int n, .int G, a, out]⟩ r := by
    intro t
    induction t with
    | zero =>
      intro i left i' left' out L ht hi hle hout hL hs h0
      subst hi hle
      refine ⟨out, ⟨L, hout, by omega, by have := h0 rfl; omega⟩, Comes.last progOk Split.p4 [] ?_ ?_⟩
      · simp only [EvOk, E.b, E.i, E.v, Env.ext, evL]; omega
      · simp only [EvOk, E.b, E.i, E.v, Env.ext, evL]
    | succ t ih =>
      intro i left i' left' out L ht hi hle hout hL hs h0
      subst hi hle
      have lo := hout.len
      by_cases h1 : i < n - 1
      · by_cases h2 : i < l.length
        · obtain ⟨d, hd⟩ : ∃ e, l[i]? = some e := ⟨_, List.getElem?_eq_getElem h2⟩
          have gd := ha.get hd
          have hd255 := hl d (List.mem_of_getElem? hd)
          have hm : ((d : Int)).tmod ((left : Int) + 1) = ((d % (left + 1) : Nat) : Int) := by rw [Int.tmod_eq_emod_of_nonneg (by omega)]; rfl
          have hlt : d % (left + 1) < left + 1 := Nat.mod_lt _ (by omega)
          obtain ⟨r, r1, r2⟩ := ih (i + 1) (left - d % (left + 1)) ((i : Int) + 1) ((left : Int) - ((a.get (i : Int)).toI).tmod ((left : Int) + 1)) (out.snoc (.int (((a.get (i : Int)).toI).tmod ((left : Int) + 1)))) (L ++ [d % (left + 1)]) (by omega) (by omega) (by rw [gd, hm]; omega) (by rw [gd, hm]; exact hout.snoc _) (by simp [hL]) (by simp; omega) (by omega)
          refine ⟨r, r1, Comes.step progOk Split.p1 [] ?_ r2⟩
          simp only [EvOk, E.b, E.i, E.v, Env.ext, evL]
          rw [gd, hm]
          omega
        · obtain ⟨r, r1, r2⟩ := ih (i + 1) left ((i : Int) + 1) ((left : Int) - 0) (out.snoc (.int 0)) (L ++ [0]) (by omega) (by omega) (by omega) (hout.snoc 0) (by simp [hL]) (by simp; omega) (by omega)
          refine ⟨r, r1, Comes.step progOk Split.p2 [] ?_ r2⟩
          simp only [EvOk, E.b, E.i, E.v, Env.ext, evL]
          omega
      · obtain ⟨r, r1, r2⟩ := ih (i + 1) 0 ((i : Int) + 1) ((left : Int) - left) (out.snoc (.int left)) (L ++ [left]) (by omega) (by omega) (by omega) (hout.snoc _) (by simp [hL]) (by simp; omega) (by omega)
        refine ⟨r, r1, Comes.step progOk Split.p3 [] ?_ r2⟩
        simp only [EvOk, E.b, E.i, E.v, Env.ext, evL]
        omega
  obtain ⟨r, ⟨L, h1, h2, h3⟩, r2⟩ := loop n 0 G 0 G .nil [] (by omega) rfl rfl ints_nil rfl (by simp) (by omega)
  exact ⟨r, L, h1, h2, h3, Fn.of (C := Split.K) Split.b (Comes.step progOk Split.p0 [] trivial r2)⟩

theorem snoc_get_lt {R x : V} {j : Nat} (h : j < R.els.length) : (R.snoc x).get (j : Int) = R.get (j : Int) := by
  simp [V.snoc, V.get, show ∀ l, (V.list l).els = l from fun _ => rfl, List.getElem?_append_left h]
theorem snoc_get_eq {R x : V} : (R.snoc x).get (R.els.length : Int) = x := by
  simp [V.snoc, V.get, show ∀ l, (V.list l).els = l from fun _ => rfl]
theorem snoc_els {R x : V} : (R.snoc x).els.length = R.els.length + 1 := by
  simp [V.snoc, show ∀ l, (V.list l).els = l from fun _ => rfl]

theorem DraftLift_spec {g c o w : Nat} {L : V} {l : List Nat} (hg : g ≤ 255) (hc : c ≤ 255) (ho : o ≤ 255) (hw : w ≤ 255) (hL : Ints L l) (hl : ∀ x ∈ l, x ≤ 255) (hll : l.length ≤ 9223372036854775807) :
    ∃ R n' rows, LMod R (1 + g % 20) (1 + c % 10) (o % (1 + g % 20 + 1)) (2 + w % 3) rows ∧ n' = 1 + c % 10 ∧ Fn prog DraftLift.f [.list [.int g, .int c, .int o, .int w, L]] (lv (1 + g % 20) n' (o % (1 + g % 20 + 1)) R) := by
  have e0 : ((V.list [.int g, .int c, .int o, .int w, L]).get 0).toI = g := rfl
  have e1 : ((V.list [.int g, .int c, .int o, .int w, L]).get 1).toI = c := rfl
  have e2 : ((V.list [.int g, .int c, .int o, .int w, L]).get 2).toI = o := rfl
  have e3 : ((V.list [.int g, .int c, .int o, .int w, L]).get 3).toI = w := rfl
  have e4 : (V.list [.int g, .int c, .int o, .int w, L]).get 4 = L := rfl
  have tn : ∀ (x : Nat) (y : Nat), ((x : Int)).tmod (y : Int) = ((x % y : Nat) : Int) := by
    intro x y; rw [Int.tmod_eq_emod_of_nonneg (by omega)]; rfl
  have m0 : ((g : Int)).tmod 20 = ((g % 20 : Nat) : Int) := tn g 20
  have m1 : ((c : Int)).tmod 10 = ((c % 10 : Nat) : Int) := tn c 10
  have m3 : ((w : Int)).tmod 3 = ((w % 3 : Nat) : Int) := tn w 3
  have m2 : ((o : Int)).tmod (1 + ((g % 20 : Nat) : Int) + 1) = ((o % (1 + g % 20 + 1) : Nat) : Int) := by
    rw [← tn]; congr 1
  have lL := hL.len
  generalize hD : V.list [.int g, .int c, .int o, .int w, L] = D at *
  have h20 : g % 20 < 20 := Nat.mod_lt _ (by omega)
  have h10 : c % 10 < 10 := Nat.mod_lt _ (by omega)
  have h3 : w % 3 < 3 := Nat.mod_lt _ (by omega)
  generalize hG : g % 20 = G at *
  generalize hn : c % 10 = n at *
  generalize hk : w % 3 = k at *
  have ho1 : o % (1 + G + 1) < 1 + G + 1 := Nat.mod_lt _ (by omega)
  generalize hO : o % (1 + G + 1) = O at *
  -- rows so far
  let Inv := fun (R : V) (rows : List (List Nat)) (j : Nat) => R.els.length = j ∧ rows.length = j ∧ ∀ (i : Nat) (r : List Nat), rows[i]? = some r → Ints (R.get (i : Int)) r ∧ r.length = 2 + k ∧ r.sum = 1 + G
  have inner : ∀ (j : Nat) (R : V), j ≤ 1 + n → R.els.length = j → (∀ (x : V) (r : List Nat), Ints x r → r.length = 2 + k → r.sum = 1 + G → ∃ q, (∃ R' rows, LMod R' (1 + G) (1 + n) O (2 + k) rows ∧ q = lv (1 + G) (1 + n) O R') ∧ Comes DraftLift.K DraftLift.f DraftLift.s1 ⟨[(j : Int) + 1], [], [D, R.snoc x]⟩ q) →
      ∀ (t i : Nat) (i' : Int) (some_ : V) (s : List Nat), t + i = 4 → i' = i → Ints some_ s → s.length ≤ i → (∀ x ∈ s, x ≤ 255) → ∃ q, (∃ R' rows, LMod R' (1 + G) (1 + n) O (2 + k) rows ∧ q = lv (1 + G) (1 + n) O R') ∧ Comes DraftLift.K DraftLift.f DraftLift.s2 ⟨[i', (j : Int)], [], [D, some_, R]⟩ q := by
    intro j R hj hR H t
    have lR : R.len = j := by simp [V.len, hR]
    induction t with
    | zero =>
      intro i i' some_ s ht hi hs hsl hsx
      subst hi
      obtain ⟨x, r, x1, x2, x3, x4⟩ := Split_spec hs hsx (n := 2 + k) (G := 1 + G) (by omega) (by omega) (by omega)
      rw [Int.natCast_add, Int.natCast_add] at x4
      obtain ⟨q, q1, q2⟩ := H x r x1 x2 x3
      refine ⟨q, q1, Comes.step progOk DraftLift.p5 [x] ?_ q2⟩
      simp only [EvOk, E.b, E.i, E.v, Env.ext, evL]
      simp only [e0, e3, m0, m3]
      refine ⟨by omega, by omega, by omega, x4, ?_, by omega⟩
      rw [lR]; omega
    | succ t ih =>
      intro i i' some_ s ht hi hs hsl hsx
      subst hi
      have ls := hs.len
      by_cases h0 : 0 < l.length
      · have hx : ((3 : Int) * j + i).tmod L.len = (((3 * j + i) % l.length : Nat) : Int) := by
          rw [lL, ← tn]; congr 1
        have hlt : (3 * j + i) % l.length < l.length := Nat.mod_lt _ h0
        obtain ⟨d, hd⟩ : ∃ e, l[(3 * j + i) % l.length]? = some e := ⟨_, List.getElem?_eq_getElem hlt⟩
        have gd := hL.get hd
        have hd255 := hl d (List.mem_of_getElem? hd)
        obtain ⟨q, q1, q2⟩ := ih (i + 1) ((i : Int) + 1) (some_.snoc (.int ((L.get (((3 : Int) * j + i).tmod L.len)).toI))) (s ++ [d]) (by omega) (by omega) (by rw [hx, gd]; exact hs.snoc d) (by simp; omega) (by intro y hy; simp at hy; rcases hy with hy | hy; exact hsx y hy; omega)
        rw [← e4] at q2
        refine ⟨q, q1, Comes.step progOk DraftLift.p3 [] ?_ q2⟩
        simp only [EvOk, E.b, E.i, E.v, Env.ext, evL]
        simp only [e4, hx]
        rw [lL]
        omega
      · obtain ⟨x, r, x1, x2, x3, x4⟩ := Split_spec hs hsx (n := 2 + k) (G := 1 + G) (by omega) (by omega) (by omega)
        rw [Int.natCast_add, Int.natCast_add] at x4
        obtain ⟨q, q1, q2⟩ := H x r x1 x2 x3
        refine ⟨q, q1, Comes.step progOk DraftLift.p4 [x] ?_ q2⟩
        simp only [EvOk, E.b, E.i, E.v, Env.ext, evL]
        simp only [e0, e3, e4, m0, m3]
        refine ⟨by omega, by omega, by omega, by omega, x4, ?_, by omega⟩
        rw [lR]; omega
  have outer : ∀ (t j : Nat) (j' : Int) (R : V) (rows : List (List Nat)), t + j = 2 + n → j' = j → Inv R rows j → ∃ q, (∃ R' rows, LMod R' (1 + G) (1 + n) O (2 + k) rows ∧ q = lv (1 + G) (1 + n) O R') ∧ Comes DraftLift.K DraftLift.f DraftLift.s1 ⟨[j'], [], [D, R]⟩ q := by
    intro t
    induction t with
    | zero =>
      intro j j' R rows ht hj hI
      subst hj
      obtain ⟨i1, i2, i3⟩ := hI
      refine ⟨_, ⟨R, rows, ⟨by omega, by omega, by omega, by omega, by omega, by omega, by omega, by omega, by omega, i3⟩, rfl⟩, Comes.last progOk DraftLift.p2 [] ?_ ?_⟩
      · simp only [EvOk, E.b, E.i, E.v, Env.ext, evL]
        simp only [e1, m1]
        omega
      · simp only [E.i, E.v, Env.ext, List.append_nil, List.getD_cons_zero, List.getD_cons_succ, e0, e1, e2, m0, m1, m2]
        simp only [lv, Int.natCast_add]
        rfl
    | succ t ih =>
      intro j j' R rows ht hj hI
      subst hj
      obtain ⟨i1, i2, i3⟩ := hI
      obtain ⟨q, q1, q2⟩ := inner j R (by omega) i1 (fun x r h1 h2 h3 => ih (j + 1) ((j : Int) + 1) (R.snoc x) (rows ++ [r]) (by omega) (by omega) ⟨by rw [snoc_els, i1], by simp [i2], by
        intro i r' hr'
        by_cases hi : i < j
        · rw [List.getElem?_append_left (by omega)] at hr'
          rw [snoc_get_lt (by omega)]
          exact i3 i r' hr'
        · have : i = j := by
            have := (List.getElem?_eq_some_iff.1 hr').1
            simp at this; omega
          subst this
          rw [List.getElem?_append_right (by omega), i2, Nat.sub_self] at hr'
          simp at hr'
          subst hr'
          have := snoc_get_eq (R := R) (x := x)
          rw [i1] at this
          rw [this]
          exact ⟨h1, h2, h3⟩⟩) 4 0 0 .nil [] (by omega) rfl ints_nil (by simp) (by simp)
      refine ⟨q, q1, Comes.step progOk DraftLift.p1 [] ?_ q2⟩
      simp only [EvOk, E.b, E.i, E.v, Env.ext, evL]
      simp only [e1, m1]
      omega
  obtain ⟨q, ⟨R', rows, M, rfl⟩, q2⟩ := outer (2 + n) 0 0 .nil [] (by omega) rfl ⟨rfl, rfl, by simp⟩
  refine ⟨R', 1 + n, rows, M, rfl, Fn.of (C := DraftLift.K) DraftLift.b (Comes.step progOk DraftLift.p0 [] ?_ q2)⟩
  simp only [EvOk, E.b, E.i, E.v, Env.ext, evL]
  simp only [e0, e1, e2, m0, m1, m2]
  omega
end X
namespace X
open Go Go.Abs Go.Sym
set_option linter.unusedVariables false
set_option linter.unusedSimpArgs false

def tls (G n o : Nat) (rows : List (List Nat)) (c : Int) (e m : Nat) : List Nat := (List.range (n + 1)).map fun j => j * wt G n o rows c e m j
end X
/- Lifted models of all kinds: valid or not. -/
namespace X
open Go Go.Abs Go.Sym
set_option linter.unusedVariables false
set_option linter.unusedSimpArgs false

/-- A list of integers. -/
def Zs (x : V) (l : List Int) : Prop := x.els = l.map V.int
theorem Zs.len {a : V} {l : List Int} (h : Zs a l) : a.len = l.length := by unfold Zs at h; simp [V.len, h]
theorem Zs.get {a : V} {l : List Int} (h : Zs a l) {i : Nat} {d : Int} (hd : l[i]? = some d) : (a.get (i : Int)).toI = d := by
  unfold Zs at h; simp [V.get, h, hd, V.toI]
theorem Zs.ints {a : V} {l : List Int} (h : Zs a l) (h0 : ∀ w ∈ l, 0 ≤ w) : Ints a (l.map Int.toNat) := by
  unfold Zs at h; unfold Ints; rw [h, List.map_map]
  apply List.map_congr_left
  intro w hw
  have := h0 w hw
  show V.int w = V.int (Int.ofNat w.toNat)
  congr 1; simp; omega
theorem Ints.zs {a : V} {l : List Nat} (h : Ints a l) : Zs a (l.map Int.ofNat) := by
  unfold Ints at h; unfold Zs; rw [h, List.map_map]; rfl
/-- Rows of integers. -/
structure Tab (R : V) (rows : List (List Int)) : Prop where
  len : R.els.length = rows.length
  row : ∀ (j : Nat) (r : List Int), rows[j]? = some r → Zs (R.get (j : Int)) r
theorem Tab.lenI {R : V} {rows : List (List Int)} (h : Tab R rows) : R.len = rows.length := by simp [V.len, h.len]
/-- A lifted model of any kind: with few rows. -/
structure GMod (G C o : Int) (R : V) (rows : List (List Int)) : Prop where
  tab : Tab R rows
  rl : rows.length ≤ 12
  rw : ∀ r ∈ rows, r.length ≤ 6
  c1 : -9223372036854775808 ≤ C
  c2 : C ≤ 9223372036854775807
def gm (G C o : Int) (R : V) : V := .list [.int G, .int C, .int o, R]
theorem gm0 (G C o : Int) (R : V) : (gm G C o R).get 0 = .int G := rfl
theorem gm1 (G C o : Int) (R : V) : (gm G C o R).get 1 = .int C := rfl
theorem gm2 (G C o : Int) (R : V) : (gm G C o R).get 2 = .int o := rfl
theorem gm3 (G C o : Int) (R : V) : (gm G C o R).get 3 = R := rfl

/-- What the program looks for in a row. -/
def scan (G : Int) : Int → List Int → Option Int
  | s, [] => some s
  | s, w :: r => if w < 0 ∨ G < w then none else scan G (s + w) r
def vrows (G : Int) (k : Nat) : List (List Int) → Bool
  | [] => true
  | r :: rs => match scan G 0 r with
    | none => false
    | some s => decide (r.length = k) && decide (s = G) && vrows G k rs
def hd (rows : List (List Int)) : Nat := (rows.headD []).length
def okM (G C o : Int) (rows : List (List Int)) : Bool := decide (1 ≤ G ∧ G ≤ 20 ∧ 1 ≤ C ∧ C ≤ 10 ∧ 0 ≤ o ∧ o ≤ G ∧ (rows.length : Int) = C + 1) && (decide (2 ≤ hd rows ∧ hd rows ≤ 4) && vrows G (hd rows) rows)

theorem drop_cons {α : Type} {l : List α} {i : Nat} (h : i < l.length) : l.drop i = l[i] :: l.drop (i + 1) := List.drop_eq_getElem_cons h
theorem valid_dec {G C o : Int} {R : V} {rows : List (List Int)} (M : GMod G C o R rows) : Fn prog lift_valid.f [gm G C o R] (.bool (okM G C o rows)) := by
  obtain ⟨tab, rl, rw6, c1, c2⟩ := M
  have hR := tab.lenI
  have start : (∀ (h : 1 ≤ G ∧ G ≤ 20 ∧ 1 ≤ C ∧ C ≤ 10 ∧ 0 ≤ o ∧ o ≤ G ∧ (rows.length : Int) = C + 1), Comes lift_valid.K lift_valid.f lift_valid.s0 ⟨[], [], [gm G C o R]⟩ (.bool (decide (2 ≤ hd rows ∧ hd rows ≤ 4) && vrows G (hd rows) rows))) → Fn prog lift_valid.f [gm G C o R] (.bool (okM G C o rows)) := by
    intro H
    refine Fn.of (C := lift_valid.K) lift_valid.b ?_
    unfold okM
    by_cases q : 1 ≤ G ∧ G ≤ 20 ∧ 1 ≤ C ∧ C ≤ 10 ∧ 0 ≤ o ∧ o ≤ G ∧ (rows.length : Int) = C + 1
    · rw [decide_eq_true q, Bool.true_and]; exact H q
    · rw [decide_eq_false q, Bool.false_and]
      by_cases q1 : 1 ≤ G
      · by_cases q2 : G ≤ 20
        · by_cases q3 : 1 ≤ C
          · by_cases q4 : C ≤ 10
            · by_cases q5 : 0 ≤ o
              · by_cases q6 : o ≤ G
                · refine Comes.last progOk lift_valid.p6 [] ?_ rfl
                  simp only [EvOk, E.b, E.i, E.v, Env.ext, evL]; simp only [gm0, gm1, gm2, gm3, toI_int', hR, and_true, true_and]; omega
                · refine Comes.last progOk lift_valid.p5 [] ?_ rfl
                  simp only [EvOk, E.b, E.i, E.v, Env.ext, evL]; simp only [gm0, gm1, gm2, toI_int', and_true, true_and]; omega
              · refine Comes.last progOk lift_valid.p4 [] ?_ rfl
                simp only [EvOk, E.b, E.i, E.v, Env.ext, evL]; simp only [gm0, gm1, gm2, toI_int', and_true, true_and]; omega
            · refine Comes.last progOk lift_valid.p3 [] ?_ rfl
              simp only [EvOk, E.b, E.i, E.v, Env.ext, evL]; simp only [gm0, gm1, toI_int', and_true, true_and]; omega
          · refine Comes.last progOk lift_valid.p2 [] ?_ rfl
            simp only [EvOk, E.b, E.i, E.v, Env.ext, evL]; simp only [gm0, gm1, toI_int', and_true, true_and]; omega
        · refine Comes.last progOk lift_valid.p1 [] ?_ rfl
          simp only [EvOk, E.b, E.i, E.v, Env.ext, evL]; simp only [gm0, toI_int', and_true, true_and]; omega
      · refine Comes.last progOk lift_valid.p0 [] ?_ rfl
        simp only [EvOk, E.b, E.i, E.v, Env.ext, evL]; simp only [gm0, toI_int', and_true, true_and]; omega
  refine start fun q => ?_
  obtain ⟨q1, q2, q3, q4, q5, q6, q7⟩ := q
  have h0 : 0 < rows.length := by omega
  have hrow0 : rows[0]? = some rows[0] := List.getElem?_eq_getElem h0
  have hk : (R.get 0).len = (hd rows : Int) := by
    have := (tab.row 0 _ hrow0).len
    rw [show ((0 : Nat) : Int) = 0 from rfl] at this
    rw [this]; unfold hd
    cases rows with
    | nil => simp at h0
    | cons a b => rfl
  generalize hkk : hd rows = k at *
  have outer : ∀ (n j : Nat) (j' : Int), n + j = rows.length → j' = j → Comes lift_valid.K lift_valid.f lift_valid.s1 ⟨[j'], [], [gm G C o R]⟩ (.bool (vrows G k (rows.drop j))) := by
    intro n
    induction n with
    | zero =>
      intro j j' hn hj
      subst hj
      rw [List.drop_of_length_le (by omega)]
      refine Comes.last progOk lift_valid.p11 [] ?_ rfl
      simp only [EvOk, E.b, E.i, E.v, Env.ext, evL]; simp only [gm3, hR, and_true, true_and]; omega
    | succ n ih =>
      intro j j' hn hj
      subst hj
      have hj : j < rows.length := by omega
      have hr := tab.row j _ (List.getElem?_eq_getElem hj)
      have hrl := hr.len
      have h6 := rw6 rows[j] (List.getElem_mem hj)
      rw [drop_cons hj]
      have next := ih (j + 1) ((j : Int) + 1) (by omega) rfl
      generalize rows[j] = r at *
      -- the row
      have inner : ∀ (t i : Nat) (i' s : Int), t + i = r.length → i' = i → 0 ≤ s → s ≤ 20 * i → Comes lift_valid.K lift_valid.f lift_valid.s2 ⟨[s, i', (j : Int), (R.get (j : Int)).len], [], [gm G C o R, R.get (j : Int), R.get (j : Int)]⟩ (.bool (match scan G s (r.drop i) with | none => false | some s => decide (r.length = k) && decide (s = G) && vrows G k (rows.drop (j + 1)))) := by
        intro t
        induction t with
        | zero =>
          intro i i' s ht hi hs0 hs1
          subst hi
          rw [List.drop_of_length_le (by omega)]
          simp only [scan]
          by_cases p1 : r.length = k
          · by_cases p2 : s = G
            · simp only [p1, p2, decide_true, Bool.true_and]
              refine Comes.step progOk lift_valid.p17 [] ?_ next
              simp only [EvOk, E.b, E.i, E.v, Env.ext, evL]; simp only [gm0, gm3, toI_int', hrl, hk, and_true, true_and]; omega
            · rw [decide_eq_false p2, Bool.and_false, Bool.false_and]
              refine Comes.last progOk lift_valid.p16 [] ?_ rfl
              simp only [EvOk, E.b, E.i, E.v, Env.ext, evL]; simp only [gm0, gm3, toI_int', hrl, hk, and_true, true_and]; omega
          · rw [decide_eq_false p1, Bool.false_and, Bool.false_and]
            refine Comes.last progOk lift_valid.p15 [] ?_ rfl
            simp only [EvOk, E.b, E.i, E.v, Env.ext, evL]; simp only [gm0, gm3, toI_int', hrl, hk, and_true, true_and]; omega
        | succ t iht =>
          intro i i' s ht hi hs0 hs1
          subst hi
          have hi : i < r.length := by omega
          have gd := hr.get (List.getElem?_eq_getElem hi)
          rw [drop_cons hi]
          simp only [scan]
          generalize r[i] = w at *
          by_cases p1 : w < 0
          · rw [if_pos (.inl p1)]
            refine Comes.last progOk lift_valid.p12 [] ?_ rfl
            simp only [EvOk, E.b, E.i, E.v, Env.ext, evL]; simp only [gm0, gm3, toI_int', hrl, gd, and_true, true_and]; omega
          · by_cases p2 : G < w
            · rw [if_pos (.inr p2)]
              refine Comes.last progOk lift_valid.p13 [] ?_ rfl
              simp only [EvOk, E.b, E.i, E.v, Env.ext, evL]; simp only [gm0, gm3, toI_int', hrl, gd, and_true, true_and]; omega
            · rw [if_neg (by omega)]
              refine Comes.step progOk lift_valid.p14 [] ?_ (iht (i + 1) ((i : Int) + 1) (s + ((R.get (j : Int)).get (i : Int)).toI) (by omega) rfl (by rw [gd]; omega) (by rw [gd]; omega) |> fun x => by rw [gd] at x; rw [← gd] at x ⊢; exact x)
              simp only [EvOk, E.b, E.i, E.v, Env.ext, evL]; simp only [gm0, gm3, toI_int', hrl, gd, and_true, true_and]; omega
      have k0 := inner r.length 0 0 0 (by omega) rfl (by omega) (by omega)
      simp only [vrows]
      refine Comes.step progOk lift_valid.p10 [] ?_ k0
      simp only [EvOk, E.b, E.i, E.v, Env.ext, evL]; simp only [gm3, hR, and_true, true_and]; omega
  by_cases p1 : 2 ≤ k
  · by_cases p2 : k ≤ 4
    · rw [decide_eq_true ⟨p1, p2⟩, Bool.true_and]
      refine Comes.step progOk lift_valid.p9 [] ?_ (outer rows.length 0 0 (by omega) rfl)
      simp only [EvOk, E.b, E.i, E.v, Env.ext, evL]; simp only [gm0, gm1, gm2, gm3, toI_int', hR, hk, and_true, true_and]; omega
    · rw [decide_eq_false (by omega), Bool.false_and]
      refine Comes.last progOk lift_valid.p8 [] ?_ rfl
      simp only [EvOk, E.b, E.i, E.v, Env.ext, evL]; simp only [gm0, gm1, gm2, gm3, toI_int', hR, hk, and_true, true_and]; omega
  · rw [decide_eq_false (by omega), Bool.false_and]
    refine Comes.last progOk lift_valid.p7 [] ?_ rfl
    simp only [EvOk, E.b, E.i, E.v, Env.ext, evL]; simp only [gm0, gm1, gm2, gm3, toI_int', hR, hk, and_true, true_and]; omega
end X
namespace X
open Go Go.Abs Go.Sym
set_option linter.unusedVariables false
set_option linter.unusedSimpArgs false

def lscan : Int → List Int → Option Int
  | s, [] => some s
  | s, w :: r => if w < 0 ∨ s < w then none else lscan (s - w) r
def rrows (G : Int) (k : Nat) : List (List Int) → Bool
  | [] => true
  | r :: rs => decide (2 ≤ r.length ∧ r.length ≤ 4 ∧ r.length = k) && (match lscan G r with
    | none => false
    | some s => decide (s = 0) && rrows G k rs)
theorem scan_ge {G : Int} : ∀ {r : List Int} {s t : Int}, scan G s r = some t → s ≤ t
  | [], s, t, h => by simp [scan] at h; omega
  | w :: r, s, t, h => by
    unfold scan at h
    split at h
    · cases h
    · have := scan_ge h; omega
theorem scan_lscan {G : Int} : ∀ {r : List Int} {s left : Int}, 0 ≤ s → s + left = G → (scan G s r = some G ↔ lscan left r = some 0)
  | [], s, left, h0, h => by simp [scan, lscan]; omega
  | w :: r, s, left, h0, h => by
    unfold scan lscan
    by_cases p : w < 0
    · rw [if_pos (.inl p), if_pos (.inl p)]; simp
    · by_cases p2 : G < w
      · rw [if_pos (.inr p2), if_pos (.inr (by omega))]; simp
      · rw [if_neg (show ¬ (w < 0 ∨ G < w) by omega)]
        by_cases q : left < w
        · rw [if_pos (.inr q)]
          constructor
          · intro e; have := scan_ge e; omega
          · intro e; cases e
        · rw [if_neg (show ¬ (w < 0 ∨ left < w) by omega)]
          exact scan_lscan (by omega) (by omega)
theorem vrows_rrows (G : Int) (k : Nat) (hk : 2 ≤ k ∧ k ≤ 4) : ∀ rows, vrows G k rows = rrows G k rows
  | [] => rfl
  | r :: rs => by
    unfold vrows rrows
    have ih := vrows_rrows G k hk rs
    have key := scan_lscan (G := G) (r := r) (s := 0) (left := G) (by omega) (by omega)
    by_cases hl : r.length = k
    · rw [decide_eq_true (p := 2 ≤ r.length ∧ r.length ≤ 4 ∧ r.length = k) (by omega), Bool.true_and]
      cases h1 : scan G 0 r with
      | none =>
        cases h2 : lscan G r with
        | none => rfl
        | some t =>
          have : t ≠ 0 := by intro q; subst q; rw [h1] at key; exact absurd (key.2 h2) (by simp)
          simp [this]
      | some s =>
        by_cases hs : s = G
        · subst hs
          rw [key.1 h1]
          simp [hl, ih]
        · cases h2 : lscan G r with
          | none => simp [hs]
          | some t =>
            have : t ≠ 0 := by intro q; subst q; have := key.2 h2; rw [h1] at this; simp at this; exact hs this
            simp [hs, this]
    · rw [decide_eq_false (p := 2 ≤ r.length ∧ r.length ≤ 4 ∧ r.length = k) (by omega), Bool.false_and]
      cases scan G 0 r with
      | none => rfl
      | some s => simp [hl]
theorem okM_eq (G C o : Int) (rows : List (List Int)) : okM G C o rows = (decide (1 ≤ G ∧ G ≤ 20 ∧ 1 ≤ C ∧ C ≤ 10 ∧ 0 ≤ o ∧ o ≤ G ∧ (rows.length : Int) = C + 1) && rrows G (hd rows) rows) := by
  unfold okM
  by_cases q : 1 ≤ G ∧ G ≤ 20 ∧ 1 ≤ C ∧ C ≤ 10 ∧ 0 ≤ o ∧ o ≤ G ∧ (rows.length : Int) = C + 1
  · rw [decide_eq_true q, Bool.true_and, Bool.true_and]
    by_cases p : 2 ≤ hd rows ∧ hd rows ≤ 4
    · rw [decide_eq_true p, Bool.true_and]; exact vrows_rrows _ _ p _
    · rw [decide_eq_false p, Bool.false_and]
      cases rows with
      | nil => simp at q; omega
      | cons r rs =>
        unfold rrows
        have : hd (r :: rs) = r.length := rfl
        rw [this] at p ⊢
        rw [decide_eq_false (by omega), Bool.false_and]
  · rw [decide_eq_false q, Bool.false_and, Bool.false_and]

theorem Right_dec {G C o : Int} {R : V} {rows : List (List Int)} (M : GMod G C o R rows) : Fn prog ref14_Right.f [gm G C o R] (.bool (okM G C o rows)) := by
  rw [okM_eq]
  obtain ⟨tab, rl, rw6, c1, c2⟩ := M
  have hR := tab.lenI
  refine Fn.of (C := ref14_Right.K) ref14_Right.b ?_
  by_cases q : 1 ≤ G ∧ G ≤ 20 ∧ 1 ≤ C ∧ C ≤ 10 ∧ 0 ≤ o ∧ o ≤ G ∧ (rows.length : Int) = C + 1
  rotate_left
  · rw [decide_eq_false q, Bool.false_and]
    by_cases q1 : 1 ≤ G
    · by_cases q2 : G ≤ 20
      · by_cases q3 : 1 ≤ C
        · by_cases q4 : C ≤ 10
          · by_cases q5 : 0 ≤ o
            · by_cases q6 : o ≤ G
              · refine Comes.last progOk ref14_Right.p6 [] ?_ rfl
                simp only [EvOk, E.b, E.i, E.v, Env.ext, evL]; simp only [gm0, gm1, gm2, gm3, toI_int', hR, and_true, true_and]; omega
              · refine Comes.last progOk ref14_Right.p5 [] ?_ rfl
                simp only [EvOk, E.b, E.i, E.v, Env.ext, evL]; simp only [gm0, gm1, gm2, toI_int', and_true, true_and]; omega
            · refine Comes.last progOk ref14_Right.p4 [] ?_ rfl
              simp only [EvOk, E.b, E.i, E.v, Env.ext, evL]; simp only [gm0, gm1, gm2, toI_int', and_true, true_and]; omega
          · refine Comes.last progOk ref14_Right.p3 [] ?_ rfl
            simp only [EvOk, E.b, E.i, E.v, Env.ext, evL]; simp only [gm0, gm1, toI_int', and_true, true_and]; omega
        · refine Comes.last progOk ref14_Right.p2 [] ?_ rfl
          simp only [EvOk, E.b, E.i, E.v, Env.ext, evL]; simp only [gm0, gm1, toI_int', and_true, true_and]; omega
      · refine Comes.last progOk ref14_Right.p1 [] ?_ rfl
        simp only [EvOk, E.b, E.i, E.v, Env.ext, evL]; simp only [gm0, toI_int', and_true, true_and]; omega
    · refine Comes.last progOk ref14_Right.p0 [] ?_ rfl
      simp only [EvOk, E.b, E.i, E.v, Env.ext, evL]; simp only [gm0, toI_int', and_true, true_and]; omega
  rw [decide_eq_true q, Bool.true_and]
  obtain ⟨q1, q2, q3, q4, q5, q6, q7⟩ := q
  have h0 : 0 < rows.length := by omega
  have hk : (R.get 0).len = (hd rows : Int) := by
    have := (tab.row 0 _ (List.getElem?_eq_getElem h0)).len
    rw [show ((0 : Nat) : Int) = 0 from rfl] at this
    rw [this]; unfold hd
    cases rows with
    | nil => simp at h0
    | cons a b => rfl
  generalize hkk : hd rows = k at *
  have outer : ∀ (n j : Nat) (j' : Int), n + j = rows.length → j' = j → Comes ref14_Right.K ref14_Right.f ref14_Right.s1 ⟨[j'], [], [gm G C o R]⟩ (.bool (rrows G k (rows.drop j))) := by
    intro n
    induction n with
    | zero =>
      intro j j' hn hj
      subst hj
      rw [List.drop_of_length_le (by omega)]
      refine Comes.last progOk ref14_Right.p12 [] ?_ rfl
      simp only [EvOk, E.b, E.i, E.v, Env.ext, evL]; simp only [gm3, hR, and_true, true_and]; omega
    | succ n ih =>
      intro j j' hn hj
      subst hj
      have hj : j < rows.length := by omega
      have hr := tab.row j _ (List.getElem?_eq_getElem hj)
      have hrl := hr.len
      have h6 := rw6 rows[j] (List.getElem_mem hj)
      rw [drop_cons hj]
      have next := ih (j + 1) ((j : Int) + 1) (by omega) rfl
      generalize rows[j] = r at *
      unfold rrows
      by_cases a1 : 2 ≤ r.length
      rotate_left
      · rw [decide_eq_false (by omega), Bool.false_and]
        refine Comes.last progOk ref14_Right.p8 [] ?_ rfl
        simp only [EvOk, E.b, E.i, E.v, Env.ext, evL]; simp only [gm3, hR, hrl, hk, and_true, true_and]; omega
      by_cases a2 : r.length ≤ 4
      rotate_left
      · rw [decide_eq_false (by omega), Bool.false_and]
        refine Comes.last progOk ref14_Right.p9 [] ?_ rfl
        simp only [EvOk, E.b, E.i, E.v, Env.ext, evL]; simp only [gm3, hR, hrl, hk, and_true, true_and]; omega
      by_cases a3 : r.length = k
      rotate_left
      · rw [decide_eq_false (by omega), Bool.false_and]
        refine Comes.last progOk ref14_Right.p10 [] ?_ rfl
        simp only [EvOk, E.b, E.i, E.v, Env.ext, evL]; simp only [gm3, hR, hrl, hk, and_true, true_and]; omega
      rw [decide_eq_true ⟨a1, a2, a3⟩, Bool.true_and]
      have inner : ∀ (t i : Nat) (i' s : Int), t + i = r.length → i' = i → 0 ≤ s → s ≤ 20 → Comes ref14_Right.K ref14_Right.f ref14_Right.s2 ⟨[s, i', (j : Int)], [], [gm G C o R]⟩ (.bool (match lscan s (r.drop i) with | none => false | some s => decide (s = 0) && rrows G k (rows.drop (j + 1)))) := by
        intro t
        induction t with
        | zero =>
          intro i i' s ht hi hs0 hs1
          subst hi
          rw [List.drop_of_length_le (by omega)]
          simp only [lscan]
          by_cases p2 : s = 0
          · simp only [p2, decide_true, Bool.true_and]
            refine Comes.step progOk ref14_Right.p17 [] ?_ next
            simp only [EvOk, E.b, E.i, E.v, Env.ext, evL]; simp only [gm3, hR, hrl, and_true, true_and]; omega
          · rw [decide_eq_false p2, Bool.false_and]
            refine Comes.last progOk ref14_Right.p16 [] ?_ rfl
            simp only [EvOk, E.b, E.i, E.v, Env.ext, evL]; simp only [gm3, hR, hrl, and_true, true_and]; omega
        | succ t iht =>
          intro i i' s ht hi hs0 hs1
          subst hi
          have hi : i < r.length := by omega
          have gd := hr.get (List.getElem?_eq_getElem hi)
          rw [drop_cons hi]
          simp only [lscan]
          generalize r[i] = w at *
          by_cases p1 : w < 0
          · rw [if_pos (.inl p1)]
            refine Comes.last progOk ref14_Right.p13 [] ?_ rfl
            simp only [EvOk, E.b, E.i, E.v, Env.ext, evL]; simp only [gm3, hR, hrl, gd, and_true, true_and]; omega
          · by_cases p2 : s < w
            · rw [if_pos (.inr p2)]
              refine Comes.last progOk ref14_Right.p14 [] ?_ rfl
              simp only [EvOk, E.b, E.i, E.v, Env.ext, evL]; simp only [gm3, hR, hrl, gd, and_true, true_and]; omega
            · rw [if_neg (by omega)]
              have nx := iht (i + 1) ((i : Int) + 1) (s - w) (by omega) rfl (by omega) (by omega)
              rw [← gd] at nx ⊢
              refine Comes.step progOk ref14_Right.p15 [] ?_ nx
              simp only [EvOk, E.b, E.i, E.v, Env.ext, evL]; simp only [gm3, hR, hrl, gd, and_true, true_and]; omega
      refine Comes.step progOk ref14_Right.p11 [] ?_ (inner r.length 0 0 G (by omega) rfl (by omega) (by omega))
      simp only [EvOk, E.b, E.i, E.v, Env.ext, evL]; simp only [gm0, gm3, toI_int', hR, hrl, hk, and_true, true_and]; omega
  refine Comes.step progOk ref14_Right.p7 [] ?_ (outer rows.length 0 0 (by omega) rfl)
  simp only [EvOk, E.b, E.i, E.v, Env.ext, evL]; simp only [gm0, gm1, gm2, gm3, toI_int', hR, hk, and_true, true_and]; omega

/-- A model that is valid. -/
theorem lscan_sum : ∀ {r : List Int} {s t : Int}, lscan s r = some t → (∀ w ∈ r, 0 ≤ w) ∧ ((r.map Int.toNat).sum : Int) = s - t
  | [], s, t, h => by simp [lscan] at h; subst h; simp
  | w :: r, s, t, h => by
    unfold lscan at h
    split at h
    · cases h
    · obtain ⟨h1, h2⟩ := lscan_sum h
      refine ⟨fun x hx => ?_, ?_⟩
      · rcases List.mem_cons.1 hx with rfl | hx
        · omega
        · exact h1 x hx
      · simp only [List.map_cons, List.sum_cons, Int.natCast_add, h2]; omega
theorem rrows_get {G : Int} {k : Nat} : ∀ {rows : List (List Int)}, rrows G k rows = true → ∀ r ∈ rows, r.length = k ∧ 2 ≤ k ∧ k ≤ 4 ∧ lscan G r = some 0
  | [], _, r, hr => by simp at hr
  | a :: rows, h, r, hr => by
    unfold rrows at h
    simp only [Bool.and_eq_true, decide_eq_true_eq] at h
    obtain ⟨h1, h2⟩ := h
    split at h2
    · cases h2
    · rename_i s hs
      simp only [Bool.and_eq_true, decide_eq_true_eq] at h2
      obtain ⟨rfl, h3⟩ := h2
      rcases List.mem_cons.1 hr with rfl | hr
      · exact ⟨h1.2.2, by omega, by omega, hs⟩
      · exact rrows_get h3 r hr
theorem okM_mod {G C o : Int} {R : V} {rows : List (List Int)} (M : GMod G C o R rows) (h : okM G C o rows = true) : ∃ (g n p k : Nat), G = g ∧ C = n ∧ o = p ∧ k = hd rows ∧ LMod R g n p k (rows.map fun r => r.map Int.toNat) ∧ gm G C o R = lv g n p R := by
  rw [okM_eq] at h
  simp only [Bool.and_eq_true, decide_eq_true_eq] at h
  obtain ⟨⟨q1, q2, q3, q4, q5, q6, q7⟩, hr⟩ := h
  obtain ⟨g, rfl⟩ : ∃ g : Nat, G = g := ⟨G.toNat, by omega⟩
  obtain ⟨n, rfl⟩ : ∃ g : Nat, C = g := ⟨C.toNat, by omega⟩
  obtain ⟨p, rfl⟩ : ∃ g : Nat, o = g := ⟨o.toNat, by omega⟩
  have h0 : 0 < rows.length := by omega
  have hg := rrows_get hr
  obtain ⟨kk, k2, k4, _⟩ := hg _ (List.getElem_mem h0)
  have hhd : hd rows = (rows.headD []).length := rfl
  rw [hhd] at hg k2 k4
  have tab := M.tab
  clear M
  refine ⟨g, n, p, (rows.headD []).length, rfl, rfl, rfl, rfl, LMod.mk (by omega) (by omega) (by omega) (by omega) (by omega) (by omega) (by omega) (by rw [List.length_map]; omega) (by rw [tab.len]; omega) ?_, rfl⟩
  intro j r hj
  simp only [List.getElem?_map, Option.map_eq_some_iff] at hj
  obtain ⟨r0, hj, rfl⟩ := hj
  obtain ⟨e1, _, _, e2⟩ := hg r0 (List.mem_of_getElem? hj)
  obtain ⟨f1, f2⟩ := lscan_sum e2
  exact ⟨(tab.row j r0 hj).ints f1, by rw [List.length_map]; omega, by omega⟩
end X
namespace X
open Go Go.Abs Go.Sym
set_option linter.unusedVariables false
set_option linter.unusedSimpArgs false

/-! ### How many combinations there are -/
def cntF (f : Nat → Bool) : Nat → Nat
  | 0 => 0
  | n + 1 => cntF f n + (if f n then 1 else 0)
def bit (c v : Nat) : Nat := c / 2 ^ v % 2
def pc (c : Nat) : Nat → Nat
  | 0 => 0
  | v + 1 => pc c v + bit c v
def ag (z e c : Nat) : Nat → Bool
  | 0 => true
  | v + 1 => ag z e c v && (if bit c v = 1 then decide (z ≤ v) else decide (v < z) || decide (z + e ≤ v))
def sel (z e v k : Nat) (c : Nat) : Bool := ag z e c v && decide (pc c v = k)
def num (z e v k : Nat) : Nat := cntF (sel z e v k) (2 ^ v)
/-! ### The reference's weights -/
def uw (G n o : Nat) (rows : List (List Nat)) (ch : Int) (k : Nat) : Nat := o ^ k * (G - o) ^ (n - k) * shw G rows ch k
end X
namespace X
open Go Go.Abs Go.Sym
set_option linter.unusedVariables false
set_option linter.unusedSimpArgs false

/-- Evidence that fits. -/
def fitE (C : Int) (rows : List (List Int)) (z e c : Int) : Prop := 0 ≤ z ∧ z ≤ C ∧ 0 ≤ e ∧ e ≤ C - z ∧ -1 ≤ c ∧ c < hd rows
instance (C : Int) (rows : List (List Int)) (z e c : Int) : Decidable (fitE C rows z e c) := by unfold fitE; infer_instance
def code (G C o : Int) (rows : List (List Int)) (z e c : Int) : Int := if okM G C o rows = true then (if fitE C rows z e c then 0 else 2) else 140
def zc : V := .list [.list [.int 0, .int 0, .int 0, .nil], .int 0, .int 0, .int 0]
end X
namespace X
open Go Go.Abs Go.Sym
set_option linter.unusedVariables false
set_option linter.unusedSimpArgs false

theorem els_list (l : List V) : (V.list l).els = l := rfl
theorem app_nil_els (x : V) : (V.app .nil x).els = x.els := by
  unfold V.app
  split
  · rename_i h; rw [h]; rfl
  · rfl
theorem sub_els (x : V) (i j : Int) : (x.sub i j).els = (x.els.take j.toNat).drop i.toNat := by
  unfold V.sub
  split
  · simp [V.els]
  · rfl
theorem get_els {x : V} {i : Nat} (h : i < x.els.length) : x.get (i : Int) = x.els[i] := by simp [V.get, h]
theorem Zs.copy {x : V} {l : List Int} (h : Zs x l) : Zs (V.app .nil x) l := by unfold Zs at *; rw [app_nil_els, h]
theorem Zs.sub {x : V} {l : List Int} (h : Zs x l) (j : Int) : Zs (x.sub 0 j) (l.take j.toNat) := by
  unfold Zs at *; rw [sub_els, h]; simp [List.map_take]
theorem Zs.set {x : V} {l : List Int} (h : Zs x l) (i : Nat) (w : Int) : Zs (x.set (i : Int) (.int w)) (l.set i w) := by
  unfold Zs at *; simp [V.set, els_list, h, List.map_set]
theorem Zs.snoc {x : V} {l : List Int} (h : Zs x l) (w : Int) : Zs (x.snoc (.int w)) (l ++ [w]) := by
  unfold Zs at *; simp [V.snoc, els_list, h]
/-- Rows, one by one. -/
def TabL : List V → List (List Int) → Prop
  | [], [] => True
  | x :: xs, r :: rs => Zs x r ∧ TabL xs rs
  | _, _ => False
theorem TabL.get : ∀ {xs : List V} {rs : List (List Int)}, TabL xs rs → xs.length = rs.length ∧ ∀ (j : Nat) (r : List Int), rs[j]? = some r → ∃ x, xs[j]? = some x ∧ Zs x r
  | [], [], _ => ⟨rfl, fun j r h => by simp at h⟩
  | x :: xs, r :: rs, ⟨h1, h2⟩ => by
    obtain ⟨k1, k2⟩ := TabL.get h2
    refine ⟨by simp [k1], fun j r' h => ?_⟩
    cases j with
    | zero => simp at h; subst h; exact ⟨x, rfl, h1⟩
    | succ j => simpa using k2 j r' (by simpa using h)
  | [], _ :: _, h => h.elim
  | _ :: _, [], h => h.elim
theorem TabL.of : ∀ {xs : List V} {rs : List (List Int)}, xs.length = rs.length → (∀ (j : Nat) (r : List Int), rs[j]? = some r → ∃ x, xs[j]? = some x ∧ Zs x r) → TabL xs rs
  | [], [], _, _ => trivial
  | x :: xs, r :: rs, hl, h => by
    refine ⟨?_, TabL.of (by simpa using hl) fun j r' hj => by simpa using h (j + 1) r' (by simpa using hj)⟩
    obtain ⟨y, e, k⟩ := h 0 r rfl
    simp at e; subst e; exact k
  | [], _ :: _, hl, _ => by simp at hl
  | _ :: _, [], hl, _ => by simp at hl
theorem tab_iff {R : V} {rows : List (List Int)} : Tab R rows ↔ TabL R.els rows := by
  constructor
  · intro h
    refine TabL.of h.len fun j r hj => ?_
    have hlt : j < R.els.length := by rw [h.len]; exact (List.getElem?_eq_some_iff.1 hj).1
    exact ⟨R.els[j], List.getElem?_eq_getElem hlt, by rw [← get_els hlt]; exact h.row j r hj⟩
  · intro h
    obtain ⟨h1, h2⟩ := h.get
    refine ⟨h1, fun j r hj => ?_⟩
    obtain ⟨x, e, k⟩ := h2 j r hj
    have hlt := (List.getElem?_eq_some_iff.1 e).1
    rw [get_els hlt]
    have : R.els[j] = x := by rw [List.getElem?_eq_getElem hlt] at e; simpa using e
    rw [this]; exact k
theorem TabL.snoc : ∀ {xs : List V} {rs : List (List Int)} {x : V} {r : List Int}, TabL xs rs → Zs x r → TabL (xs ++ [x]) (rs ++ [r])
  | [], [], _, _, _, h => ⟨h, trivial⟩
  | _ :: _, _ :: _, _, _, ⟨h1, h2⟩, h => ⟨h1, TabL.snoc h2 h⟩
  | [], _ :: _, _, _, h, _ => h.elim
  | _ :: _, [], _, _, h, _ => h.elim
theorem TabL.set : ∀ {xs : List V} {rs : List (List Int)} {x : V} {r : List Int} (j : Nat), TabL xs rs → Zs x r → TabL (xs.set j x) (rs.set j r)
  | [], [], _, _, j, _, h => trivial
  | _ :: _, _ :: _, _, _, 0, ⟨h1, h2⟩, h => ⟨h, h2⟩
  | _ :: _, _ :: _, _, _, j + 1, ⟨h1, h2⟩, h => ⟨h1, TabL.set j h2 h⟩
  | [], _ :: _, _, _, _, h, _ => h.elim
  | _ :: _, [], _, _, _, h, _ => h.elim
theorem TabL.drop : ∀ {xs : List V} {rs : List (List Int)} (j : Nat), TabL xs rs → TabL (xs.drop j) (rs.drop j)
  | _, _, 0, h => h
  | [], [], _ + 1, _ => trivial
  | _ :: _, _ :: _, j + 1, ⟨_, h2⟩ => TabL.drop j h2
  | [], _ :: _, _ + 1, h => h.elim
  | _ :: _, [], _ + 1, h => h.elim
theorem TabL.take : ∀ {xs : List V} {rs : List (List Int)} (j : Nat), TabL xs rs → TabL (xs.take j) (rs.take j)
  | _, _, 0, h => by simp [TabL]
  | [], [], _ + 1, _ => trivial
  | _ :: _, _ :: _, j + 1, ⟨h1, h2⟩ => ⟨h1, TabL.take j h2⟩
  | [], _ :: _, _ + 1, h => h.elim
  | _ :: _, [], _ + 1, h => h.elim
theorem Tab.snoc {R x : V} {rows : List (List Int)} {r : List Int} (h : Tab R rows) (k : Zs x r) : Tab (R.snoc x) (rows ++ [r]) := tab_iff.2 ((tab_iff.1 h).snoc k)
theorem Tab.set {R x : V} {rows : List (List Int)} {r : List Int} (h : Tab R rows) (j : Nat) (k : Zs x r) : Tab (R.set (j : Int) x) (rows.set j r) := by
  refine tab_iff.2 ?_
  have := (tab_iff.1 h).set j k
  simpa [V.set, els_list] using this
theorem Tab.sub {R : V} {rows : List (List Int)} (h : Tab R rows) (i j : Int) : Tab (R.sub i j) ((rows.take j.toNat).drop i.toNat) := by
  refine tab_iff.2 ?_
  rw [sub_els]
  exact ((tab_iff.1 h).take _).drop _
theorem tab_nil : Tab .nil [] := tab_iff.2 trivial

theorem LMod.gmod {R : V} {G n o k : Nat} {rows : List (List Nat)} (M : LMod R G n o k rows) : GMod G n o R (rows.map fun r => r.map Int.ofNat) := by
  have hn := M.n2
  refine ⟨⟨by rw [M.rlen, List.length_map, M.len], fun j r hj => ?_⟩, by rw [List.length_map, M.len]; omega, fun r hr => ?_, by omega, by omega⟩
  · simp only [List.getElem?_map, Option.map_eq_some_iff] at hj
    obtain ⟨r0, hj, rfl⟩ := hj
    exact Ints.zs (M.row j r0 hj).1
  · obtain ⟨r0, h0, rfl⟩ := List.mem_map.1 hr
    obtain ⟨j, hj⟩ := List.getElem?_of_mem h0
    have := (M.row j r0 hj).2.1
    have := M.k2
    rw [List.length_map]; omega

theorem tmod_nat (a b : Nat) : ((a : Int)).tmod (b : Int) = ((a % b : Nat) : Int) := by rw [Int.tmod_eq_emod_of_nonneg (Int.natCast_nonneg _)]; rfl
theorem set_rows {rows : List (List Int)} {j : Nat} {r : List Int} (h : ∀ r ∈ rows, r.length ≤ 4) (hr : r.length ≤ 6) : ∀ x ∈ rows.set j r, x.length ≤ 6 := by
  intro x hx
  rcases List.mem_or_eq_of_mem_set hx with q | q
  · have := h x q; omega
  · subst q; exact hr
theorem BendOf_spec {R : V} {G n o k : Nat} {rows : List (List Nat)} (M : LMod R G n o k rows) {w j a : Nat} {N : Int} (hj : j ≤ 255) (ha : a ≤ 255) (hN1 : -9223372036854775808 ≤ N) (hN2 : N ≤ 9223372036854775807) :
    ∃ G' C' o' R' rows', GMod G' C' o' R' rows' ∧ Fn prog BendOf.f [.list [.int w, .int j, .int a, .int N], lv G n o R] (gm G' C' o' R') := by
  have GM := M.gmod
  have hn := M.n2
  have hk := M.k2
  have hk1 := M.k1
  generalize hzr : (rows.map fun r => r.map Int.ofNat) = zr at GM
  have zl : zr.length = n + 1 := by rw [← hzr, List.length_map, M.len]
  have z4 : ∀ r ∈ zr, r.length ≤ 4 := by
    intro r hr
    rw [← hzr] at hr
    obtain ⟨r0, h0, rfl⟩ := List.mem_map.1 hr
    obtain ⟨i, hi⟩ := List.getElem?_of_mem h0
    have := (M.row i r0 hi).2.1
    rw [List.length_map]; omega
  have z2 : ∀ r ∈ zr, 2 ≤ r.length := by
    intro r hr
    rw [← hzr] at hr
    obtain ⟨r0, h0, rfl⟩ := List.mem_map.1 hr
    obtain ⟨i, hi⟩ := List.getElem?_of_mem h0
    have := (M.row i r0 hi).2.1
    rw [List.length_map]; omega
  have tab := GM.tab
  have hR := tab.lenI
  have l3 : (lv G n o R).get 3 = R := rfl
  generalize hB : V.list [.int w, .int j, .int a, .int N] = B
  have b0 : (B.get 0).toI = w := by rw [← hB]; rfl
  have b1 : (B.get 1).toI = j := by rw [← hB]; rfl
  have b2 : (B.get 2).toI = a := by rw [← hB]; rfl
  have b3 : (B.get 3).toI = N := by rw [← hB]; rfl
  have loop : ∀ (t i : Nat) (i' : Int) (out : V), t + i = n + 1 → i' = i → Tab out (zr.take i) → ∃ G' C' o' R' rows', GMod G' C' o' R' rows' ∧ Comes BendOf.K BendOf.f BendOf.s1 ⟨[i'], [], [B, lv G n o R, out]⟩ (gm G' C' o' R') := by
    intro t
    induction t with
    | zero =>
      intro i i' out ht hi hout
      have : i = n + 1 := by omega
      subst this hi
      rw [List.take_of_length_le (by omega)] at hout
      have ho := hout.lenI
      rw [zl] at ho
      have hw7 : ((w : Int)).tmod 7 = ((w % 7 : Nat) : Int) := tmod_nat w 7
      have hlt : w % 7 < 7 := Nat.mod_lt _ (by omega)
      have hjr : ((j : Int)).tmod out.len = ((j % (n + 1) : Nat) : Int) := by rw [ho]; exact tmod_nat j (n + 1)
      have hjl : j % (n + 1) < n + 1 := Nat.mod_lt _ (by omega)
      obtain ⟨rj, hrj⟩ : ∃ r, zr[j % (n + 1)]? = some r := ⟨_, List.getElem?_eq_getElem (by omega)⟩
      have hz := hout.row _ _ hrj
      have hzl := hz.len
      have r4 := z4 rj (List.mem_of_getElem? hrj)
      have r2 := z2 rj (List.mem_of_getElem? hrj)
      have mk : ∀ {R' : V} {rows' : List (List Int)} (C' : Int), Tab R' rows' → rows'.length ≤ 12 → (∀ r ∈ rows', r.length ≤ 6) → -9223372036854775808 ≤ C' → C' ≤ 9223372036854775807 → ∀ (G' o' : Int), GMod G' C' o' R' rows' := fun C' a b c d e _ _ => ⟨a, b, c, d, e⟩
      have z6 : ∀ r ∈ zr, r.length ≤ 6 := fun r hr => by have := z4 r hr; omega
      by_cases w0 : w % 7 = 0
      · refine ⟨N, n, o, out, zr, mk _ hout (by omega) z6 (by omega) (by omega) _ _, Comes.last progOk BendOf.p2 [] ?_ (by simp only [E.i, E.v, Env.ext, List.append_nil, List.getD_cons_zero, List.getD_cons_succ, b3]; rfl)⟩
        simp only [EvOk, E.b, E.i, E.v, Env.ext, evL]; simp only [l3, hR, zl, b0, b1, b2, b3, hw7, ho, and_true, true_and]; omega
      by_cases w1 : w % 7 = 1
      · refine ⟨G, N, o, out, zr, mk _ hout (by omega) z6 (by omega) (by omega) _ _, Comes.last progOk BendOf.p3 [] ?_ (by simp only [E.i, E.v, Env.ext, List.append_nil, List.getD_cons_zero, List.getD_cons_succ, b3]; rfl)⟩
        simp only [EvOk, E.b, E.i, E.v, Env.ext, evL]; simp only [l3, hR, zl, b0, b1, b2, b3, hw7, ho, and_true, true_and]; omega
      by_cases w2 : w % 7 = 2
      · refine ⟨G, n, N, out, zr, mk _ hout (by omega) z6 (by omega) (by omega) _ _, Comes.last progOk BendOf.p4 [] ?_ (by simp only [E.i, E.v, Env.ext, List.append_nil, List.getD_cons_zero, List.getD_cons_succ, b3]; rfl)⟩
        simp only [EvOk, E.b, E.i, E.v, Env.ext, evL]; simp only [l3, hR, zl, b0, b1, b2, b3, hw7, ho, and_true, true_and]; omega
      by_cases w3 : w % 7 = 3
      · have har : ((a : Int)).tmod (out.get ((j % (n + 1) : Nat) : Int)).len = ((a % rj.length : Nat) : Int) := by rw [hzl]; exact tmod_nat a _
        have hal : a % rj.length < rj.length := Nat.mod_lt _ (by omega)
        refine ⟨G, n, o, _, _, mk _ (hout.set (j % (n + 1)) (hz.set (a % rj.length) N)) (by rw [List.length_set]; omega) (set_rows z4 (by rw [List.length_set]; omega)) (by omega) (by omega) _ _, Comes.last progOk BendOf.p5 [] ?_ (by simp only [E.i, E.v, Env.ext, List.append_nil, List.getD_cons_zero, List.getD_cons_succ, b1, b2, b3, hjr, har]; rfl)⟩
        simp only [EvOk, E.b, E.i, E.v, Env.ext, evL]; simp only [l3, hR, zl, b0, b1, b2, b3, hw7, hjr, har, hzl, ho, tmod_nat, and_true, true_and]; omega
      by_cases w4 : w % 7 = 4
      · refine ⟨G, n, o, _, _, mk _ (hout.sub 1 out.len) (by rw [List.length_drop, List.length_take]; omega) (fun r hr => z6 r (List.mem_of_mem_take (List.mem_of_mem_drop hr))) (by omega) (by omega) _ _, Comes.last progOk BendOf.p6 [] ?_ rfl⟩
        simp only [EvOk, E.b, E.i, E.v, Env.ext, evL]; simp only [l3, hR, zl, b0, b1, b2, b3, hw7, ho, and_true, true_and]; omega
      by_cases w5 : w % 7 = 5
      · refine ⟨G, n, o, _, _, mk _ (hout.set (j % (n + 1)) (hz.snoc 0)) (by rw [List.length_set]; omega) (set_rows z4 (by simp; omega)) (by omega) (by omega) _ _, Comes.last progOk BendOf.p7 [] ?_ (by simp only [E.i, E.v, Env.ext, List.append_nil, List.getD_cons_zero, List.getD_cons_succ, b1, b2, b3, hjr]; rfl)⟩
        simp only [EvOk, E.b, E.i, E.v, Env.ext, evL]; simp only [l3, hR, zl, b0, b1, b2, b3, hw7, hjr, hzl, ho, tmod_nat, and_true, true_and]; omega
      · refine ⟨G, n, o, _, _, mk _ ((hout.set (j % (n + 1)) hz).set (j % (n + 1)) (hz.sub 1)) (by rw [List.length_set, List.length_set]; omega) ?_ (by omega) (by omega) _ _, Comes.last progOk BendOf.p8 [] ?_ (by simp only [E.i, E.v, Env.ext, List.append_nil, List.getD_cons_zero, List.getD_cons_succ, b1, b2, b3, hjr]; rfl)⟩
        · intro x hx
          rcases List.mem_or_eq_of_mem_set hx with q | q
          · rcases List.mem_or_eq_of_mem_set q with q | q
            · exact z6 x q
            · subst q; omega
          · subst q; rw [List.length_take]; omega
        · simp only [EvOk, E.b, E.i, E.v, Env.ext, evL]; simp only [l3, hR, zl, b0, b1, b2, b3, hw7, hjr, hzl, ho, tmod_nat, and_true, true_and]; omega
    | succ t ih =>
      intro i i' out ht hi hout
      subst hi
      have ho := hout.lenI
      rw [List.length_take, zl, Nat.min_eq_left (by omega)] at ho
      obtain ⟨r, hr⟩ : ∃ r, zr[i]? = some r := ⟨_, List.getElem?_eq_getElem (by omega)⟩
      have hz := tab.row i r hr
      have hzl := hz.len
      have r4 := z4 r (List.mem_of_getElem? hr)
      obtain ⟨G', C', o', R', rows', q1, q2⟩ := ih (i + 1) ((i : Int) + 1) (out.snoc (V.app .nil (R.get (i : Int)))) (by omega) (by omega) (by rw [List.take_add_one, hr]; exact hout.snoc hz.copy)
      refine ⟨G', C', o', R', rows', q1, Comes.step progOk BendOf.p1 [] ?_ q2⟩
      simp only [EvOk, E.b, E.i, E.v, Env.ext, evL]; simp only [l3, hR, zl, hzl, ho, tmod_nat, and_true, true_and]; omega
  obtain ⟨G', C', o', R', rows', q1, q2⟩ := loop (n + 1) 0 0 .nil (by omega) rfl tab_nil
  exact ⟨G', C', o', R', rows', q1, Fn.of (C := BendOf.K) BendOf.b (Comes.step progOk BendOf.p0 [] trivial q2)⟩

theorem few_spec {G C o : Int} {R : V} {rows : List (List Int)} (tab : Tab R rows) (hC1 : -9223372036854775808 ≤ C) (hC2 : C ≤ 9223372036854775807) : ∃ R' rows', GMod G C o R' rows' ∧ Fn prog few.f [gm G C o R] (gm G C o R') := by
  have hR := tab.lenI
  have hmin : minI R.len 12 = ((min rows.length 12 : Nat) : Int) := by
    rw [hR]; unfold minI; split <;> omega
  have hmin2 : minI (rows.length : Int) 12 = ((min rows.length 12 : Nat) : Int) := by rw [← hR]; exact hmin
  have hsub := tab.sub 0 (minI R.len 12)
  rw [hmin] at hsub
  simp only [Int.toNat_natCast, Int.toNat_zero, List.drop_zero] at hsub
  have hsl := hsub.lenI
  rw [List.length_take] at hsl
  have hm : min (min rows.length 12) rows.length = min rows.length 12 := by omega
  rw [hm] at hsl
  generalize hS : R.sub 0 ((min rows.length 12 : Nat) : Int) = S at *
  generalize hrr : rows.take (min rows.length 12) = rr at *
  have hrl : rr.length = min rows.length 12 := by rw [← hrr, List.length_take]; omega
  have loop : ∀ (t i : Nat) (i' : Int) (out : V) (os : List (List Int)), t + i = rr.length → i' = i → Tab out os → os.length = i → (∀ r ∈ os, r.length ≤ 6) → ∃ R' rows', GMod G C o R' rows' ∧ Comes few.K few.f few.s1 ⟨[i'], [], [gm G C o R, out]⟩ (gm G C o R') := by
    intro t
    induction t with
    | zero =>
      intro i i' out os ht hi hout hl h6
      subst hi
      refine ⟨out, os, ⟨hout, by omega, h6, hC1, hC2⟩, Comes.last progOk few.p2 [] ?_ rfl⟩
      simp only [EvOk, E.b, E.i, E.v, Env.ext, evL]; simp only [gm3, hmin, hS, hsl, and_true, true_and]; omega
    | succ t ih =>
      intro i i' out os ht hi hout hl h6
      subst hi
      obtain ⟨r, hr⟩ : ∃ r, rr[i]? = some r := ⟨_, List.getElem?_eq_getElem (by omega)⟩
      have hz := hsub.row i r hr
      have hzl := hz.len
      have hol := hout.lenI
      have hm6 : minI ((S.get (i : Int)).len) 6 = ((min r.length 6 : Nat) : Int) := by
        rw [hzl]; unfold minI; split <;> omega
      have hm62 : minI (r.length : Int) 6 = ((min r.length 6 : Nat) : Int) := by rw [← hzl]; exact hm6
      have hz2 := hz.sub ((min r.length 6 : Nat) : Int)
      obtain ⟨R', rows', q1, q2⟩ := ih (i + 1) ((i : Int) + 1) (out.snoc ((S.get (i : Int)).sub 0 ((min r.length 6 : Nat) : Int))) _ (by omega) (by omega) (hout.snoc hz2) (by simp [hl]) (by
        intro x hx
        rcases List.mem_append.1 hx with q | q
        · exact h6 x q
        · simp at q; subst q; rw [List.length_take]; omega)
      rw [← hm6, ← hS, ← hmin] at q2
      refine ⟨R', rows', q1, Comes.step progOk few.p1 [] ?_ q2⟩
      simp only [EvOk, E.b, E.i, E.v, Env.ext, evL]; simp only [gm3, hmin, hS, hsl, hm6, hm62, hzl, hol, and_true, true_and]; omega
  obtain ⟨R', rows', q1, q2⟩ := loop rr.length 0 0 .nil [] (by omega) rfl tab_nil rfl (by simp)
  refine ⟨R', rows', q1, Fn.of (C := few.K) few.b (Comes.step progOk few.p0 [] ?_ q2)⟩
  simp only [EvOk, E.b, E.i, E.v, Env.ext, evL]; simp only [gm3, hmin, hmin2, hR, and_true, true_and]; omega
end X
