/- Texts of the claim: P_lift_shows, P_lift_weights, P_lift_shared, P_lift_Next, P_lift_Child, P_over, P_equalQ, P_Split, P_KnownOf, P_LiftEqual, Paths, T1, Num1, Num2, Num3, Num4, Num5, Num6, Lift1, Lift2, Lift3, Num7, Num8, Lift4, Lift5, Lift6, Lift7, Lift9, Lift10, Lift11, Lift12, Lift13. -/
import Derived.Test.YtildjgdhdcoojaaZ10
namespace X
open Go Go.Abs Go.Sym
set_option linter.unusedVariables false
/-! (haruspex/lift.counter).shows -/
namespace lift_shows
abbrev f : Nat := 72
noncomputable def K : Cfg := ⟨prog, pl, [], [], []⟩
noncomputable def s0 : SMach := ⟨⟨72, 21, (m (.agg [(.int .i64 (.toI (.get (.get (.vv 0) (.il 0)) (.il 0)))), (.int .i64 (.toI (.get (.get (.vv 0) (.il 0)) (.il 1)))), (.int .i64 (.toI (.get (.get (.vv 0) (.il 0)) (.il 2)))), (.pure 64 (.get (.get (.vv 0) (.il 0)) (.il 3)) (.cell 0 3)), (.int .i64 (.toI (.get (.vv 0) (.il 1)))), (.int .i64 (.toI (.get (.vv 0) (.il 2)))), (.int .i64 (.toI (.get (.vv 0) (.il 3))))]) (l (.int .i64 (.toI (.vv 1)))) z z z), [.code (C 72 [])], [], .run, false, none⟩, [], ⟨0, 2, 2, z⟩⟩
theorem p0 : last K 72 21 [true] s0 = some ((.ofI (.toI (.get (.get (.vv 0) (.il 0)) (.il 0)))), [.ask (.lt (.toI (.get (.vv 0) (.il 3))) (.il 0))]) := by kernel_rfl
theorem p1 : last K 72 29 [false] s0 = some ((.ofI (.toI (.get (.get (.get (.get (.vv 0) (.il 0)) (.il 3)) (.toI (.vv 1))) (.toI (.get (.vv 0) (.il 3)))))), [.ask (.not (.lt (.toI (.get (.vv 0) (.il 3))) (.il 0))), .ask (.and (.le (.il 0) (.toI (.vv 1))) (.lt (.toI (.vv 1)) (.len (.get (.get (.vv 0) (.il 0)) (.il 3))))), .ask (.and (.le (.il 0) (.toI (.get (.vv 0) (.il 3)))) (.lt (.toI (.get (.vv 0) (.il 3))) (.len (.get (.get (.get (.vv 0) (.il 0)) (.il 3)) (.toI (.vv 1))))))]) := by kernel_rfl
theorem b : sbegin prog 72 = some s0 := by kernel_rfl
end lift_shows
end X
namespace X
open Go Go.Abs Go.Sym
set_option linter.unusedVariables false
/-! (haruspex/lift.counter).weights -/
namespace lift_weights
abbrev f : Nat := 45
noncomputable def K : Cfg := ⟨prog, pl, [], [46, 72], []⟩
noncomputable def s0 : SMach := ⟨⟨45, 57, (l (.agg [(.int .i64 (.toI (.get (.get (.vv 0) (.il 0)) (.il 0)))), (.int .i64 (.toI (.get (.get (.vv 0) (.il 0)) (.il 1)))), (.int .i64 (.toI (.get (.get (.vv 0) (.il 0)) (.il 2)))), (.pure 64 (.get (.get (.vv 0) (.il 0)) (.il 3)) (.cell 0 3)), (.int .i64 (.toI (.get (.vv 0) (.il 1)))), (.int .i64 (.toI (.get (.vv 0) (.il 2)))), (.int .i64 (.toI (.get (.vv 0) (.il 3))))])), [.code (C 45 [])], [], .run, false, none⟩, [], ⟨0, 1, 1, z⟩⟩
noncomputable def s1 : SMach := ⟨⟨82, 24, (m (.yieldf 5) (l (.addr 3 0)) z (l (.int .i64 (.iv 0))) (l (.int .i64 (.iv 1)))), [.code (C 82 [1, 1, 0, 0]), .inLoop (C 82 [1, 1, 0, 0]), .inBlock 0], [], .run, false, none⟩, [⟨45, 57, (n (l (.addr 0 0)) z (l (.addr 2 0)) z), [.inRangeFunc 5, .inBlock 0, .code (C 45 [1, 1, 1])], [⟨.collected 4, []⟩], .run, false, none⟩], ⟨6, 2, 2, (m (.cells [(.int .i64 (.toI (.get (.get (.vv 0) (.il 0)) (.il 0)))), (.int .i64 (.toI (.get (.get (.vv 0) (.il 0)) (.il 1)))), (.int .i64 (.toI (.get (.get (.vv 0) (.il 0)) (.il 2)))), (.pure 64 (.get (.get (.vv 0) (.il 0)) (.il 3)) (.cell 1 0)), (.int .i64 (.toI (.get (.vv 0) (.il 1)))), (.int .i64 (.toI (.get (.vv 0) (.il 2)))), (.int .i64 (.toI (.get (.vv 0) (.il 3))))]) (m (.arr 3 (.vv 1) 0) (l (.loop ⟨.ready, none, 45, 57, (n (l (.addr 0 0)) z (l (.addr 2 0)) z), PA 45 [1, 1, 0, 1, 0], (C 45 [1, 1, 0, 1, 0, 0]), (C 45 [1, 1, 0, 1, 0, 1]), 4⟩)) z z z) (l (.cells [(.view 1)])) (l (.cells [(.int .i64 (.sub (.sub (.toI (.get (.get (.vv 0) (.il 0)) (.il 1))) (.toI (.get (.vv 0) (.il 1)))) (.toI (.get (.vv 0) (.il 2)))))])) (l (.deferred (some []))))⟩⟩
theorem p0 : stretch K 53 [] s0 s1 [] ⟨[(.il 1), (.il 0)], [], [(.vv 0), (.rep (.add (.toI (.get (.get (.vv 0) (.il 0)) (.il 1))) (.il 1)) (.ofI (.il 0)))], [(.cell 0 0), (.cell 0 3)]⟩ [(5, (some 5)), (0, (some 0)), (2, (some 2)), (1, (some 1)), (4, (some 4)), (3, (some 3))] = some (s1, [.ask (.and (.le (.il (-9223372036854775808)) (.add (.toI (.get (.get (.vv 0) (.il 0)) (.il 1))) (.il 1))) (.le (.add (.toI (.get (.get (.vv 0) (.il 0)) (.il 1))) (.il 1)) (.il 9223372036854775807))), .ask (.and (.le (.il 0) (.add (.toI (.get (.get (.vv 0) (.il 0)) (.il 1))) (.il 1))) (.le (.add (.toI (.get (.get (.vv 0) (.il 0)) (.il 1))) (.il 1)) (.il 17592186044416))), .ask (.and (.le (.il (-9223372036854775808)) (.sub (.toI (.get (.get (.vv 0) (.il 0)) (.il 1))) (.toI (.get (.vv 0) (.il 1))))) (.le (.sub (.toI (.get (.get (.vv 0) (.il 0)) (.il 1))) (.toI (.get (.vv 0) (.il 1)))) (.il 9223372036854775807))), .ask (.and (.le (.il (-9223372036854775808)) (.sub (.sub (.toI (.get (.get (.vv 0) (.il 0)) (.il 1))) (.toI (.get (.vv 0) (.il 1)))) (.toI (.get (.vv 0) (.il 2))))) (.le (.sub (.sub (.toI (.get (.get (.vv 0) (.il 0)) (.il 1))) (.toI (.get (.vv 0) (.il 1)))) (.toI (.get (.vv 0) (.il 2)))) (.il 9223372036854775807)))]) := by kernel_rfl
theorem p1 : stretch K 85 [true] s1 s1 [] ⟨[(.quo (.mul (.iv 0) (.sub (.sub (.sub (.toI (.get (.get (.vv 0) (.il 0)) (.il 1))) (.toI (.get (.vv 0) (.il 1)))) (.toI (.get (.vv 0) (.il 2)))) (.iv 1))) (.add (.iv 1) (.il 1))), (.add (.iv 1) (.il 1))], [], [(.vv 0), (.set (.vv 1) (.add (.toI (.get (.vv 0) (.il 2))) (.iv 1)) (.ofI (.mul (.mul (.mul (.iv 0) (.toI (.vv 2))) (.toI (.vv 3))) (.toI (.vv 4)))))], [(.cell 0 0), (.cell 1 0)]⟩ [(5, (some 5)), (0, (some 0)), (2, (some 2)), (1, (some 1)), (4, (some 4)), (3, (some 3))] = some (s1, [.ask (.le (.iv 1) (.sub (.sub (.toI (.get (.get (.vv 0) (.il 0)) (.il 1))) (.toI (.get (.vv 0) (.il 1)))) (.toI (.get (.vv 0) (.il 2))))), .ask (.and (.le (.il (-9223372036854775808)) (.add (.toI (.get (.vv 0) (.il 2))) (.iv 1))) (.le (.add (.toI (.get (.vv 0) (.il 2))) (.iv 1)) (.il 9223372036854775807))), .ask (.and (.le (.il (-9223372036854775808)) (.sub (.toI (.get (.get (.vv 0) (.il 0)) (.il 0))) (.toI (.get (.get (.vv 0) (.il 0)) (.il 2))))) (.le (.sub (.toI (.get (.get (.vv 0) (.il 0)) (.il 0))) (.toI (.get (.get (.vv 0) (.il 0)) (.il 2)))) (.il 9223372036854775807))), .ask (.and (.le (.il (-9223372036854775808)) (.sub (.toI (.get (.get (.vv 0) (.il 0)) (.il 1))) (.add (.toI (.get (.vv 0) (.il 2))) (.iv 1)))) (.le (.sub (.toI (.get (.get (.vv 0) (.il 0)) (.il 1))) (.add (.toI (.get (.vv 0) (.il 2))) (.iv 1))) (.il 9223372036854775807))), .call 46 [(.ofI (.toI (.get (.get (.vv 0) (.il 0)) (.il 2)))), (.ofI (.add (.toI (.get (.vv 0) (.il 2))) (.iv 1)))], .ask (.and (.le (.il (-9223372036854775808)) (.mul (.iv 0) (.toI (.vv 2)))) (.le (.mul (.iv 0) (.toI (.vv 2))) (.il 9223372036854775807))), .call 46 [(.ofI (.sub (.toI (.get (.get (.vv 0) (.il 0)) (.il 0))) (.toI (.get (.get (.vv 0) (.il 0)) (.il 2))))), (.ofI (.sub (.toI (.get (.get (.vv 0) (.il 0)) (.il 1))) (.add (.toI (.get (.vv 0) (.il 2))) (.iv 1))))], .ask (.and (.le (.il (-9223372036854775808)) (.mul (.mul (.iv 0) (.toI (.vv 2))) (.toI (.vv 3)))) (.le (.mul (.mul (.iv 0) (.toI (.vv 2))) (.toI (.vv 3))) (.il 9223372036854775807))), .call 72 [(.snoc (.snoc (.snoc (.snoc .emp (.snoc (.snoc (.snoc (.snoc .emp (.ofI (.toI (.get (.get (.vv 0) (.il 0)) (.il 0))))) (.ofI (.toI (.get (.get (.vv 0) (.il 0)) (.il 1))))) (.ofI (.toI (.get (.get (.vv 0) (.il 0)) (.il 2))))) (.get (.get (.vv 0) (.il 0)) (.il 3)))) (.ofI (.toI (.get (.vv 0) (.il 1))))) (.ofI (.toI (.get (.vv 0) (.il 2))))) (.ofI (.toI (.get (.vv 0) (.il 3))))), (.ofI (.add (.toI (.get (.vv 0) (.il 2))) (.iv 1)))], .ask (.and (.le (.il (-9223372036854775808)) (.mul (.mul (.mul (.iv 0) (.toI (.vv 2))) (.toI (.vv 3))) (.toI (.vv 4)))) (.le (.mul (.mul (.mul (.iv 0) (.toI (.vv 2))) (.toI (.vv 3))) (.toI (.vv 4))) (.il 9223372036854775807))), .ask (.and (.le (.il 0) (.add (.toI (.get (.vv 0) (.il 2))) (.iv 1))) (.lt (.add (.toI (.get (.vv 0) (.il 2))) (.iv 1)) (.len (.vv 1)))), .ask (.and (.le (.il 0) (.add (.toI (.get (.vv 0) (.il 2))) (.iv 1))) (.lt (.add (.toI (.get (.vv 0) (.il 2))) (.iv 1)) (.len (.vv 1)))), .ask (.and (.le (.il (-9223372036854775808)) (.sub (.sub (.sub (.toI (.get (.get (.vv 0) (.il 0)) (.il 1))) (.toI (.get (.vv 0) (.il 1)))) (.toI (.get (.vv 0) (.il 2)))) (.iv 1))) (.le (.sub (.sub (.sub (.toI (.get (.get (.vv 0) (.il 0)) (.il 1))) (.toI (.get (.vv 0) (.il 1)))) (.toI (.get (.vv 0) (.il 2)))) (.iv 1)) (.il 9223372036854775807))), .ask (.and (.le (.il (-9223372036854775808)) (.mul (.iv 0) (.sub (.sub (.sub (.toI (.get (.get (.vv 0) (.il 0)) (.il 1))) (.toI (.get (.vv 0) (.il 1)))) (.toI (.get (.vv 0) (.il 2)))) (.iv 1)))) (.le (.mul (.iv 0) (.sub (.sub (.sub (.toI (.get (.get (.vv 0) (.il 0)) (.il 1))) (.toI (.get (.vv 0) (.il 1)))) (.toI (.get (.vv 0) (.il 2)))) (.iv 1))) (.il 9223372036854775807))), .ask (.and (.le (.il (-9223372036854775808)) (.add (.iv 1) (.il 1))) (.le (.add (.iv 1) (.il 1)) (.il 9223372036854775807))), .ask (.not (.eq (.add (.iv 1) (.il 1)) (.il 0))), .ask (.and (.le (.il (-9223372036854775808)) (.quo (.mul (.iv 0) (.sub (.sub (.sub (.toI (.get (.get (.vv 0) (.il 0)) (.il 1))) (.toI (.get (.vv 0) (.il 1)))) (.toI (.get (.vv 0) (.il 2)))) (.iv 1))) (.add (.iv 1) (.il 1)))) (.le (.quo (.mul (.iv 0) (.sub (.sub (.sub (.toI (.get (.get (.vv 0) (.il 0)) (.il 1))) (.toI (.get (.vv 0) (.il 1)))) (.toI (.get (.vv 0) (.il 2)))) (.iv 1))) (.add (.iv 1) (.il 1))) (.il 9223372036854775807))), .ask (.and (.le (.il (-9223372036854775808)) (.add (.iv 1) (.il 1))) (.le (.add (.iv 1) (.il 1)) (.il 9223372036854775807)))]) := by kernel_rfl
theorem p2 : last K 45 26 [false] s1 = some ((.vv 1), [.ask (.not (.le (.iv 1) (.sub (.sub (.toI (.get (.get (.vv 0) (.il 0)) (.il 1))) (.toI (.get (.vv 0) (.il 1)))) (.toI (.get (.vv 0) (.il 2))))))]) := by kernel_rfl
theorem b : sbegin prog 45 = some s0 := by kernel_rfl
end lift_weights
end X
namespace X
open Go Go.Abs Go.Sym
set_option linter.unusedVariables false
/-! haruspex/lift.shared -/
namespace lift_shared
abbrev f : Nat := 51
noncomputable def K : Cfg := ⟨prog, pl, [], [42], []⟩
noncomputable def s0 : SMach := ⟨⟨51, 31, (l (.pure 3 (.vv 0) (.cell 0 0))), [.code (C 51 [])], [], .run, false, none⟩, [], ⟨0, 1, 1, z⟩⟩
noncomputable def s1 : SMach := ⟨⟨43, 21, (m (.func 44 [] []) (n (l (.int .i64 (.iv 0))) (l (.int .i64 (.len (.vv 0)))) z z) (n z (l (.int .i64 (.iv 1))) z z) z (n (l (.pure 3 (.vv 0) (.cell 1 0))) z z z)), [.code (C 43 [1, 1, 0, 1, 0, 0]), .inLoop (C 43 [1, 1, 0, 1, 0, 0]), .inBlock 0, .code (C 43 [1, 1, 1])], [], .run, false, none⟩, [⟨51, 31, (m (.pure 3 (.vv 0) (.cell 2 0)) (n z (l (.pure 3 (.vv 0) (.cell 3 0))) z z) z z z), [R 51 [1, 0] 1, .code (C 51 [1, 1])], [], .run, false, none⟩], ⟨0, 4, 1, z⟩⟩
noncomputable def s2 : SMach := ⟨⟨51, 31, (n (n z z (l (.pure 3 (.vv 0) (.cell 4 0))) z) (n z z (l (.int .i64 (.len (.vv 0)))) z) (m (.int .i64 (.iv 0)) z z (l (.int .i64 (.iv 2))) z) (l (.view 0))), [.code (C 51 [1, 1, 1, 1, 0, 1, 0, 0]), .inLoop (C 51 [1, 1, 1, 1, 0, 1, 0, 0]), .inBlock 0, .code (C 51 [1, 1, 1, 1, 1])], [], .run, false, none⟩, [], ⟨1, 5, 2, (l (.arr 50 (.vv 1) 0))⟩⟩
theorem p0 : stretch K 25 [] s0 s1 [] ⟨[(.il 0), (.il 0)], [], [(.vv 0)], [(.cell 0 0), (.cell 0 0), (.cell 0 0), (.cell 0 0)]⟩ [] = some (s1, []) := by kernel_rfl
theorem p1 : stretch K 40 [true] s1 s1 [] ⟨[(.add (.iv 0) (.toI (.get (.vv 0) (.iv 1)))), (.add (.iv 1) (.il 1))], [], [(.vv 0)], [(.cell 0 0), (.cell 1 0), (.cell 2 0), (.cell 3 0)]⟩ [] = some (s1, [.ask (.lt (.iv 1) (.len (.vv 0))), .ask (.and (.le (.il 0) (.iv 1)) (.lt (.iv 1) (.len (.vv 0)))), .ask (.and (.le (.il (-9223372036854775808)) (.add (.iv 0) (.toI (.get (.vv 0) (.iv 1))))) (.le (.add (.iv 0) (.toI (.get (.vv 0) (.iv 1)))) (.il 9223372036854775807))), .ask (.and (.le (.il (-9223372036854775808)) (.add (.iv 1) (.il 1))) (.le (.add (.iv 1) (.il 1)) (.il 9223372036854775807)))]) := by kernel_rfl
theorem p2 : last K 51 28 [false, true] s1 = some (.nil, [.ask (.not (.lt (.iv 1) (.len (.vv 0)))), .ask (.eq (.iv 0) (.il 0))]) := by kernel_rfl
theorem p3 : stretch K 37 [false, false] s1 s2 [] ⟨[(.iv 0), (.iv 1), (.il 0)], [], [(.vv 0), .nil], [(.cell 0 0), (.cell 1 0), (.cell 2 0), (.cell 3 0), (.cell 2 0)]⟩ [(0, none)] = some (s2, [.ask (.not (.lt (.iv 1) (.len (.vv 0)))), .ask (.not (.eq (.iv 0) (.il 0)))]) := by kernel_rfl
theorem p4 : stretch K 40 [true] s2 s2 [] ⟨[(.iv 0), (.iv 1), (.add (.iv 2) (.il 1))], [], [(.vv 0), (.snoc (.vv 1) (.snoc (.snoc .emp (.ofI (.toI (.get (.get (.vv 2) (.il 0)) (.il 0))))) (.ofI (.toI (.get (.get (.vv 2) (.il 0)) (.il 1))))))], [(.cell 0 0), (.cell 1 0), (.cell 2 0), (.cell 3 0), (.cell 4 0)]⟩ [(0, (some 3))] = some (s2, [.ask (.lt (.iv 2) (.len (.vv 0))), .ask (.and (.le (.il 0) (.iv 2)) (.lt (.iv 2) (.len (.vv 0)))), .call 42 [(.ofI (.toI (.get (.vv 0) (.iv 2)))), (.ofI (.iv 0))], .ask (.le (.add (.len (.vv 1)) (.il 1)) (.il 4398046510592)), .ask (.and (.le (.il (-9223372036854775808)) (.add (.iv 2) (.il 1))) (.le (.add (.iv 2) (.il 1)) (.il 9223372036854775807)))]) := by kernel_rfl
theorem p5 : last K 51 13 [false] s2 = some ((.vv 1), [.ask (.not (.lt (.iv 2) (.len (.vv 0))))]) := by kernel_rfl
theorem b : sbegin prog 51 = some s0 := by kernel_rfl
end lift_shared
end X
namespace X
open Go Go.Abs Go.Sym
set_option linter.unusedVariables false
/-! haruspex/lift.Next -/
namespace lift_Next
abbrev f : Nat := 23
noncomputable def K : Cfg := ⟨prog, pl, [], [41, 45, 42], []⟩
noncomputable def s0 : SMach := ⟨⟨23, 51, (m (.agg [(.int .i64 (.toI (.get (.vv 0) (.il 0)))), (.int .i64 (.toI (.get (.vv 0) (.il 1)))), (.int .i64 (.toI (.get (.vv 0) (.il 2)))), (.pure 64 (.get (.vv 0) (.il 3)) (.cell 0 3))]) (l (.int .i64 (.toI (.vv 1)))) (l (.int .i64 (.toI (.vv 2)))) (l (.int .i64 (.toI (.vv 3)))) z), [.code (C 23 [])], [], .run, false, none⟩, [], ⟨0, 4, 4, z⟩⟩
noncomputable def s1 : SMach := ⟨⟨43, 21, (m (.func 44 [] []) (n (l (.int .i64 (.iv 0))) (l (.int .i64 (.len (.vv 5)))) z z) (n z (l (.int .i64 (.iv 1))) z z) z (n (l (.pure 3 (.vv 5) (.cell 6 0))) z z z)), [.code (C 43 [1, 1, 0, 1, 0, 0]), .inLoop (C 43 [1, 1, 0, 1, 0, 0]), .inBlock 0, .code (C 43 [1, 1, 1])], [], .run, false, none⟩, [⟨23, 51, (n z (n z (l (.addr 2 0)) z (n (l (.pure 3 (.vv 5) (.cell 8 0))) z z z)) z (n (l (.addr 1 0)) z z z)), [R 23 [1, 1, 1, 1, 0] 2, .code (C 23 [1, 1, 1, 1, 1])], [], .run, false, none⟩], ⟨3, 9, 6, (n (l (.cells [(.int .i64 (.il 0)), (.int .i64 (.il 0))])) (l (.cells [(.int .i64 (.toI (.get (.get (.get (.vv 4) (.il 0)) (.il 0)) (.il 0)))), (.int .i64 (.toI (.get (.get (.get (.vv 4) (.il 0)) (.il 0)) (.il 1)))), (.int .i64 (.toI (.get (.get (.get (.vv 4) (.il 0)) (.il 0)) (.il 2)))), (.pure 64 (.get (.get (.get (.vv 4) (.il 0)) (.il 0)) (.il 3)) (.cell 7 0)), (.int .i64 (.toI (.get (.get (.vv 4) (.il 0)) (.il 1)))), (.int .i64 (.toI (.get (.get (.vv 4) (.il 0)) (.il 2)))), (.int .i64 (.toI (.get (.get (.vv 4) (.il 0)) (.il 3))))])) z z)⟩⟩
noncomputable def s2 : SMach := ⟨⟨43, 21, (m (.func 44 [] []) (n (l (.int .i64 (.iv 2))) (l (.int .i64 (.len (.vv 6)))) z z) (n z (l (.int .i64 (.iv 3))) z z) z (n (l (.pure 3 (.vv 6) (.cell 10 0))) z z z)), [.code (C 43 [1, 1, 0, 1, 0, 0]), .inLoop (C 43 [1, 1, 0, 1, 0, 0]), .inBlock 0, .code (C 43 [1, 1, 1])], [], .run, false, none⟩, [⟨23, 51, (n (n z z (n z (l (.pure 3 (.vv 6) (.cell 11 0))) z z) z) z z (n (l (.addr 1 0)) (l (.int .i64 (.iv 0))) z z)), [R 23 [1, 1, 1, 1, 1, 1, 1, 1, 0] 2, .code .ret], [], .run, false, none⟩], ⟨4, 12, 7, (n (l (.cells [(.int .i64 (.il 0)), (.int .i64 (.il 0))])) z z z)⟩⟩
theorem p1 : last K 23 46 [false, true] s0 = some ((.snoc (.snoc .emp (.snoc (.snoc .emp (.ofI (.il 0))) (.ofI (.il 0)))) (.ofI (.il 4))), [.call 41 [(.snoc (.snoc (.snoc (.snoc .emp (.ofI (.toI (.get (.vv 0) (.il 0))))) (.ofI (.toI (.get (.vv 0) (.il 1))))) (.ofI (.toI (.get (.vv 0) (.il 2))))) (.get (.vv 0) (.il 3))), (.ofI (.toI (.vv 1))), (.ofI (.toI (.vv 2))), (.ofI (.toI (.vv 3)))], .ask (.not (.not (.eq (.toI (.get (.vv 4) (.il 1))) (.il 0)))), .ask (.and (.le (.il (-9223372036854775808)) (.add (.toI (.vv 1)) (.toI (.vv 2)))) (.le (.add (.toI (.vv 1)) (.toI (.vv 2))) (.il 9223372036854775807))), .ask (.eq (.add (.toI (.vv 1)) (.toI (.vv 2))) (.toI (.get (.vv 0) (.il 1))))]) := by kernel_rfl
theorem p2 : stretch K 62 [false, false] s0 s1 [] ⟨[(.il 0), (.il 0)], [], [(.vv 0), (.vv 1), (.vv 2), (.vv 3), (.vv 4), (.vv 5)], [(.cell 0 0), (.cell 1 0), (.cell 2 0), (.cell 3 0), (.cell 4 0), (.cell 5 0), (.cell 5 0), (.cell 4 3), (.cell 5 0)]⟩ [(1, (some 1)), (2, (some 2))] = some (s1, [.call 41 [(.snoc (.snoc (.snoc (.snoc .emp (.ofI (.toI (.get (.vv 0) (.il 0))))) (.ofI (.toI (.get (.vv 0) (.il 1))))) (.ofI (.toI (.get (.vv 0) (.il 2))))) (.get (.vv 0) (.il 3))), (.ofI (.toI (.vv 1))), (.ofI (.toI (.vv 2))), (.ofI (.toI (.vv 3)))], .ask (.not (.not (.eq (.toI (.get (.vv 4) (.il 1))) (.il 0)))), .ask (.and (.le (.il (-9223372036854775808)) (.add (.toI (.vv 1)) (.toI (.vv 2)))) (.le (.add (.toI (.vv 1)) (.toI (.vv 2))) (.il 9223372036854775807))), .ask (.not (.eq (.add (.toI (.vv 1)) (.toI (.vv 2))) (.toI (.get (.vv 0) (.il 1))))), .call 45 [(.snoc (.snoc (.snoc (.snoc .emp (.snoc (.snoc (.snoc (.snoc .emp (.ofI (.toI (.get (.get (.get (.vv 4) (.il 0)) (.il 0)) (.il 0))))) (.ofI (.toI (.get (.get (.get (.vv 4) (.il 0)) (.il 0)) (.il 1))))) (.ofI (.toI (.get (.get (.get (.vv 4) (.il 0)) (.il 0)) (.il 2))))) (.get (.get (.get (.vv 4) (.il 0)) (.il 0)) (.il 3)))) (.ofI (.toI (.get (.get (.vv 4) (.il 0)) (.il 1))))) (.ofI (.toI (.get (.get (.vv 4) (.il 0)) (.il 2))))) (.ofI (.toI (.get (.get (.vv 4) (.il 0)) (.il 3)))))]]) := by kernel_rfl
theorem p3 : stretch K 40 [true] s1 s1 [] ⟨[(.add (.iv 0) (.toI (.get (.vv 5) (.iv 1)))), (.add (.iv 1) (.il 1))], [], [(.vv 0), (.vv 1), (.vv 2), (.vv 3), (.vv 4), (.vv 5)], [(.cell 0 0), (.cell 1 0), (.cell 2 0), (.cell 3 0), (.cell 4 0), (.cell 5 0), (.cell 6 0), (.cell 7 0), (.cell 8 0)]⟩ [(1, (some 1)), (2, (some 2))] = some (s1, [.ask (.lt (.iv 1) (.len (.vv 5))), .ask (.and (.le (.il 0) (.iv 1)) (.lt (.iv 1) (.len (.vv 5)))), .ask (.and (.le (.il (-9223372036854775808)) (.add (.iv 0) (.toI (.get (.vv 5) (.iv 1))))) (.le (.add (.iv 0) (.toI (.get (.vv 5) (.iv 1)))) (.il 9223372036854775807))), .ask (.and (.le (.il (-9223372036854775808)) (.add (.iv 1) (.il 1))) (.le (.add (.iv 1) (.il 1)) (.il 9223372036854775807)))]) := by kernel_rfl
theorem p4 : last K 23 30 [false, true] s1 = some ((.snoc (.snoc .emp (.snoc (.snoc .emp (.ofI (.il 0))) (.ofI (.il 0)))) (.ofI (.il 7))), [.ask (.not (.lt (.iv 1) (.len (.vv 5)))), .ask (.eq (.iv 0) (.il 0))]) := by kernel_rfl
theorem p5 : stretch K 60 [false, false] s1 s2 [] ⟨[(.iv 0), (.iv 1), (.il 0), (.il 0)], [], [(.vv 0), (.vv 1), (.vv 2), (.vv 3), (.vv 4), (.vv 5), (.vv 6)], [(.cell 0 0), (.cell 1 0), (.cell 2 0), (.cell 3 0), (.cell 4 0), (.cell 5 0), (.cell 6 0), (.cell 7 0), (.cell 8 0), (.cell 9 0), (.cell 9 0), (.cell 9 0)]⟩ [(1, (some 1))] = some (s2, [.ask (.not (.lt (.iv 1) (.len (.vv 5)))), .ask (.not (.eq (.iv 0) (.il 0))), .ask (.and (.le (.il (-9223372036854775808)) (.add (.toI (.get (.get (.vv 4) (.il 0)) (.il 2))) (.il 1))) (.le (.add (.toI (.get (.get (.vv 4) (.il 0)) (.il 2))) (.il 1)) (.il 9223372036854775807))), .call 45 [(.snoc (.snoc (.snoc (.snoc .emp (.snoc (.snoc (.snoc (.snoc .emp (.ofI (.toI (.get (.get (.get (.vv 4) (.il 0)) (.il 0)) (.il 0))))) (.ofI (.toI (.get (.get (.get (.vv 4) (.il 0)) (.il 0)) (.il 1))))) (.ofI (.toI (.get (.get (.get (.vv 4) (.il 0)) (.il 0)) (.il 2))))) (.get (.get (.get (.vv 4) (.il 0)) (.il 0)) (.il 3)))) (.ofI (.toI (.get (.get (.vv 4) (.il 0)) (.il 1))))) (.ofI (.add (.toI (.get (.get (.vv 4) (.il 0)) (.il 2))) (.il 1)))) (.ofI (.toI (.get (.get (.vv 4) (.il 0)) (.il 3)))))]]) := by kernel_rfl
theorem p6 : stretch K 40 [true] s2 s2 [] ⟨[(.iv 0), (.iv 1), (.add (.iv 2) (.toI (.get (.vv 6) (.iv 3)))), (.add (.iv 3) (.il 1))], [], [(.vv 0), (.vv 1), (.vv 2), (.vv 3), (.vv 4), (.vv 5), (.vv 6)], [(.cell 0 0), (.cell 1 0), (.cell 2 0), (.cell 3 0), (.cell 4 0), (.cell 5 0), (.cell 6 0), (.cell 7 0), (.cell 8 0), (.cell 9 0), (.cell 10 0), (.cell 11 0)]⟩ [(1, (some 1))] = some (s2, [.ask (.lt (.iv 3) (.len (.vv 6))), .ask (.and (.le (.il 0) (.iv 3)) (.lt (.iv 3) (.len (.vv 6)))), .ask (.and (.le (.il (-9223372036854775808)) (.add (.iv 2) (.toI (.get (.vv 6) (.iv 3))))) (.le (.add (.iv 2) (.toI (.get (.vv 6) (.iv 3)))) (.il 9223372036854775807))), .ask (.and (.le (.il (-9223372036854775808)) (.add (.iv 3) (.il 1))) (.le (.add (.iv 3) (.il 1)) (.il 9223372036854775807)))]) := by kernel_rfl
theorem p7 : last K 23 22 [false] s2 = some ((.snoc (.snoc .emp (.snoc (.snoc .emp (.ofI (.toI (.get (.get (.vv 7) (.il 0)) (.il 0))))) (.ofI (.toI (.get (.get (.vv 7) (.il 0)) (.il 1)))))) (.ofI (.toI (.get (.vv 7) (.il 1))))), [.ask (.not (.lt (.iv 3) (.len (.vv 6)))), .call 42 [(.ofI (.iv 2)), (.ofI (.iv 0))]]) := by kernel_rfl
theorem b : sbegin prog 23 = some s0 := by kernel_rfl
end lift_Next
end X
namespace X
open Go Go.Abs Go.Sym
set_option linter.unusedVariables false
/-! haruspex/lift.Child -/
namespace lift_Child
abbrev f : Nat := 25
noncomputable def K : Cfg := ⟨prog, pl, [], [41, 45, 51], []⟩
noncomputable def s0 : SMach := ⟨⟨25, 44, (m (.agg [(.int .i64 (.toI (.get (.vv 0) (.il 0)))), (.int .i64 (.toI (.get (.vv 0) (.il 1)))), (.int .i64 (.toI (.get (.vv 0) (.il 2)))), (.pure 64 (.get (.vv 0) (.il 3)) (.cell 0 3))]) (l (.int .i64 (.toI (.vv 1)))) (l (.int .i64 (.toI (.vv 2)))) z z), [.code (C 25 [])], [], .run, false, none⟩, [], ⟨0, 3, 3, z⟩⟩
noncomputable def s1 : SMach := ⟨⟨25, 44, (n z (n z (l (.view 2)) z z) (n z (n (l (.int .i64 (.len (.get (.get (.vv 0) (.il 3)) (.il 0))))) z z z) z z) (n (l (.addr 1 0)) (n (l (.int .i64 (.iv 0))) z z z) z z)), [.code (C 25 [1, 1, 1, 1, 0, 1, 0, 0]), .inLoop (C 25 [1, 1, 1, 1, 0, 1, 0, 0]), .inBlock 0, .code (C 25 [1, 1, 1, 1, 1])], [], .run, false, none⟩, [], ⟨3, 5, 5, (n (l (.cells [(.int .i64 (.toI (.get (.get (.get (.vv 3) (.il 0)) (.il 0)) (.il 0)))), (.int .i64 (.toI (.get (.get (.get (.vv 3) (.il 0)) (.il 0)) (.il 1)))), (.int .i64 (.toI (.get (.get (.get (.vv 3) (.il 0)) (.il 0)) (.il 2)))), (.pure 64 (.get (.get (.get (.vv 3) (.il 0)) (.il 0)) (.il 3)) (.cell 4 0)), (.int .i64 (.toI (.get (.get (.vv 3) (.il 0)) (.il 1)))), (.int .i64 (.toI (.get (.get (.vv 3) (.il 0)) (.il 2)))), (.int .i64 (.toI (.get (.get (.vv 3) (.il 0)) (.il 3))))])) (l (.arr 3 (.vv 4) 0)) z z)⟩⟩
noncomputable def s2 : SMach := ⟨⟨43, 21, (m (.func 53 [] [(.addr 1 0)]) (n (l (.int .i64 (.iv 1))) (l (.int .i64 (.il 1))) z z) (n z (l (.int .i64 (.iv 0))) z z) z (n (l (.view 2)) z z z)), [.code (C 43 [1, 1, 0, 1, 0, 0]), .inLoop (C 43 [1, 1, 0, 1, 0, 0]), .inBlock 0, .code (C 43 [1, 1, 1])], [], .run, false, none⟩, [⟨25, 44, (n z (n z z z (n (l (.view 2)) z z z)) (n z (n (l (.int .i64 (.len (.get (.get (.vv 0) (.il 3)) (.il 0))))) z z z) (n (l (.view 3)) z z z) z) (n (l (.addr 1 0)) (n (l (.int .i64 (.iv 2))) z z z) (n (l (.func 53 [] [(.addr 1 0)])) z z z) z)), [R 25 [1, 1, 1, 1, 0, 1, 0, 0, 1, 1, 0, 0, 1] 4, .inBlock 1, .code (C 25 [1, 1, 1, 1, 0, 1, 0, 0, 1, 1, 1]), .inLoop (C 25 [1, 1, 1, 1, 0, 1, 0, 0]), .inBlock 0, .code (C 25 [1, 1, 1, 1, 1])], [], .run, false, none⟩], ⟨4, 6, 6, (n (l (.cells [(.int .i64 (.toI (.get (.get (.get (.vv 3) (.il 0)) (.il 0)) (.il 0)))), (.int .i64 (.toI (.get (.get (.get (.vv 3) (.il 0)) (.il 0)) (.il 1)))), (.int .i64 (.toI (.get (.get (.get (.vv 3) (.il 0)) (.il 0)) (.il 2)))), (.pure 64 (.get (.get (.get (.vv 3) (.il 0)) (.il 0)) (.il 3)) (.cell 5 0)), (.int .i64 (.toI (.get (.get (.vv 3) (.il 0)) (.il 1)))), (.int .i64 (.toI (.get (.get (.vv 3) (.il 0)) (.il 2)))), (.int .i64 (.toI (.get (.get (.vv 3) (.il 0)) (.il 3))))])) (l (.arr 3 (.vv 4) 0)) (l (.arr 3 (.vv 5) 0)) z)⟩⟩
noncomputable def s3 : SMach := ⟨⟨43, 21, (m (.func 44 [] []) (n (l (.int .i64 (.iv 0))) (l (.int .i64 (.iv 5))) z z) (n z (l (.int .i64 (.iv 1))) z z) z (n (l (.pure 3 (.vv 5) (.cell 7 0))) z z z)), [.code (C 43 [1, 1, 0, 1, 0, 0]), .inLoop (C 43 [1, 1, 0, 1, 0, 0]), .inBlock 0, .code (C 43 [1, 1, 1])], [], .run, false, none⟩, [⟨53, 11, (n (n z (l (.pure 3 (.vv 6) (.cell 8 0))) z z) z z z), [R 53 [1, 1, 1, 0] 2, .code .ret], [], .run, false, none⟩, ⟨43, 21, (m (.func 53 [] [(.addr 1 0)]) (n z (l (.int .i64 (.il 1))) z z) (n z (l (.int .i64 (.iv 2))) (l (.int .i64 (.iv 3))) z) (n z z (l (.func 53 [] [(.addr 1 0)])) z) (n (l (.view 2)) z (l (.int .i64 (.iv 4))) z)), [R 43 [1, 1, 0, 1, 0, 0, 1, 1, 0, 0, 1] 3, .inBlock 1, .code (C 43 [1, 1, 0, 1, 0, 0, 1, 1, 1]), .inLoop (C 43 [1, 1, 0, 1, 0, 0]), .inBlock 0, .code (C 43 [1, 1, 1])], [], .run, false, none⟩, ⟨25, 44, (n z (n z z z (n (l (.view 2)) z z z)) (n z (n (l (.int .i64 (.len (.get (.get (.vv 0) (.il 3)) (.il 0))))) z z z) (n (l (.view 4)) z z z) z) (n (l (.addr 1 0)) (n (l (.int .i64 (.iv 6))) z z z) (n (l (.func 53 [] [(.addr 1 0)])) z z z) z)), [R 25 [1, 1, 1, 1, 0, 1, 0, 0, 1, 1, 0, 0, 1] 4, .inBlock 1, .code (C 25 [1, 1, 1, 1, 0, 1, 0, 0, 1, 1, 1]), .inLoop (C 25 [1, 1, 1, 1, 0, 1, 0, 0]), .inBlock 0, .code (C 25 [1, 1, 1, 1, 1])], [], .run, false, none⟩], ⟨5, 10, 9, (n (l (.cells [(.int .i64 (.toI (.get (.get (.get (.vv 3) (.il 0)) (.il 0)) (.il 0)))), (.int .i64 (.toI (.get (.get (.get (.vv 3) (.il 0)) (.il 0)) (.il 1)))), (.int .i64 (.toI (.get (.get (.get (.vv 3) (.il 0)) (.il 0)) (.il 2)))), (.pure 64 (.get (.get (.get (.vv 3) (.il 0)) (.il 0)) (.il 3)) (.cell 9 0)), (.int .i64 (.toI (.get (.get (.vv 3) (.il 0)) (.il 1)))), (.int .i64 (.toI (.get (.get (.vv 3) (.il 0)) (.il 2)))), (.int .i64 (.toI (.get (.get (.vv 3) (.il 0)) (.il 3))))])) (l (.arr 3 (.vv 7) 0)) z (l (.arr 3 (.vv 8) 0)))⟩⟩
theorem p1 : stretch K 43 [false] s0 s1 [] ⟨[(.il 0)], [], [(.vv 0), (.vv 1), (.vv 2), (.vv 3), .nil], [(.cell 0 0), (.cell 1 0), (.cell 2 0), (.cell 3 0), (.cell 3 3)]⟩ [(1, (some 1)), (2, none)] = some (s1, [.call 41 [(.snoc (.snoc (.snoc (.snoc .emp (.ofI (.toI (.get (.vv 0) (.il 0))))) (.ofI (.toI (.get (.vv 0) (.il 1))))) (.ofI (.toI (.get (.vv 0) (.il 2))))) (.get (.vv 0) (.il 3))), (.ofI (.toI (.vv 1))), (.ofI (.toI (.vv 2))), (.ofI (.il (-1)))], .ask (.not (.not (.eq (.toI (.get (.vv 3) (.il 1))) (.il 0)))), .ask (.lt (.il 0) (.len (.get (.vv 0) (.il 3))))]) := by kernel_rfl
theorem p2 : stretch K 37 [true] s1 s2 [] ⟨[(.il 0), (.il 0), (.iv 0)], [], [(.vv 0), (.vv 1), (.vv 2), (.vv 3), (.snoc .emp (.ofI (.iv 0))), (.vv 4)], [(.cell 0 0), (.cell 1 0), (.cell 2 0), (.cell 3 0), (.cell 4 0), (.cell 4 0)]⟩ [(1, (some 1)), (2, (some 3)), (3, (some 2))] = some (s2, [.ask (.lt (.iv 0) (.len (.get (.get (.vv 0) (.il 3)) (.il 0))))]) := by kernel_rfl
theorem p3 : last K 25 26 [false, true] s1 = some ((.snoc (.snoc .emp .nil) (.ofI (.il 7))), [.ask (.not (.lt (.iv 0) (.len (.get (.get (.vv 0) (.il 3)) (.il 0))))), .call 51 [(.vv 4)], .ask (.isNil (.vv 5))]) := by kernel_rfl
theorem p4 : last K 25 28 [false, false] s1 = some ((.snoc (.snoc .emp (.vv 5)) (.ofI (.il 0))), [.ask (.not (.lt (.iv 0) (.len (.get (.get (.vv 0) (.il 3)) (.il 0))))), .call 51 [(.vv 4)], .ask (.not (.isNil (.vv 5)))]) := by kernel_rfl
theorem p5 : stretch K 58 [true] s2 s3 [] ⟨[(.il 0), (.il 0), (.iv 0), (.iv 1), (.toI (.get (.vv 4) (.iv 0))), (.len (.vv 6)), (.iv 2)], [], [(.vv 0), (.vv 1), (.vv 2), (.vv 3), (.vv 4), (.vv 6), (.vv 6), (.vv 4), (.vv 5)], [(.cell 0 0), (.cell 1 0), (.cell 2 0), (.cell 3 0), (.cell 4 0), (.cell 5 0), (.cell 6 0), (.cell 6 0), (.cell 6 0), (.cell 5 0)]⟩ [(1, (some 1)), (2, (some 2)), (4, (some 3))] = some (s3, [.ask (.lt (.iv 0) (.il 1)), .ask (.and (.le (.il 0) (.iv 0)) (.lt (.iv 0) (.len (.vv 4)))), .ask (.and (.le (.il 0) (.iv 0)) (.lt (.iv 0) (.len (.vv 4)))), .call 45 [(.snoc (.snoc (.snoc (.snoc .emp (.snoc (.snoc (.snoc (.snoc .emp (.ofI (.toI (.get (.get (.get (.vv 3) (.il 0)) (.il 0)) (.il 0))))) (.ofI (.toI (.get (.get (.get (.vv 3) (.il 0)) (.il 0)) (.il 1))))) (.ofI (.toI (.get (.get (.get (.vv 3) (.il 0)) (.il 0)) (.il 2))))) (.get (.get (.get (.vv 3) (.il 0)) (.il 0)) (.il 3)))) (.ofI (.toI (.get (.get (.vv 3) (.il 0)) (.il 1))))) (.ofI (.toI (.get (.get (.vv 3) (.il 0)) (.il 2))))) (.ofI (.toI (.get (.vv 4) (.iv 0)))))]]) := by kernel_rfl
theorem p6 : stretch K 24 [false] s2 s1 [] ⟨[(.add (.iv 2) (.il 1))], [], [(.vv 0), (.vv 1), (.vv 2), (.vv 3), (.snoc (.vv 5) (.ofI (.iv 1)))], [(.cell 0 0), (.cell 1 0), (.cell 2 0), (.cell 3 0), (.cell 5 0)]⟩ [(1, (some 1)), (2, (some 5))] = some (s1, [.ask (.not (.lt (.iv 0) (.il 1))), .ask (.le (.add (.len (.vv 5)) (.il 1)) (.il 8796093021696)), .ask (.and (.le (.il (-9223372036854775808)) (.add (.iv 2) (.il 1))) (.le (.add (.iv 2) (.il 1)) (.il 9223372036854775807)))]) := by kernel_rfl
theorem p7 : stretch K 40 [true] s3 s3 [] ⟨[(.add (.iv 0) (.toI (.get (.vv 5) (.iv 1)))), (.add (.iv 1) (.il 1)), (.iv 2), (.iv 3), (.iv 4), (.iv 5), (.iv 6)], [], [(.vv 0), (.vv 1), (.vv 2), (.vv 3), (.vv 4), (.vv 5), (.vv 6), (.vv 7), (.vv 8)], [(.cell 0 0), (.cell 1 0), (.cell 2 0), (.cell 3 0), (.cell 4 0), (.cell 5 0), (.cell 6 0), (.cell 7 0), (.cell 8 0), (.cell 9 0)]⟩ [(1, (some 1)), (2, (some 2)), (4, (some 4))] = some (s3, [.ask (.lt (.iv 1) (.iv 5)), .ask (.and (.le (.il 0) (.iv 1)) (.lt (.iv 1) (.len (.vv 5)))), .ask (.and (.le (.il (-9223372036854775808)) (.add (.iv 0) (.toI (.get (.vv 5) (.iv 1))))) (.le (.add (.iv 0) (.toI (.get (.vv 5) (.iv 1)))) (.il 9223372036854775807))), .ask (.and (.le (.il (-9223372036854775808)) (.add (.iv 1) (.il 1))) (.le (.add (.iv 1) (.il 1)) (.il 9223372036854775807)))]) := by kernel_rfl
theorem p8 : stretch K 27 [false] s3 s2 [] ⟨[(.add (.iv 2) (.il 1)), (.add (.iv 3) (.iv 0)), (.iv 6)], [], [(.vv 0), (.vv 1), (.vv 2), (.vv 3), (.vv 7), (.vv 8)], [(.cell 0 0), (.cell 1 0), (.cell 2 0), (.cell 3 0), (.cell 4 0), (.cell 9 0)]⟩ [(1, (some 1)), (2, (some 2)), (3, (some 4))] = some (s2, [.ask (.not (.lt (.iv 1) (.iv 5))), .ask (.and (.le (.il (-9223372036854775808)) (.add (.iv 3) (.iv 0))) (.le (.add (.iv 3) (.iv 0)) (.il 9223372036854775807))), .ask (.and (.le (.il (-9223372036854775808)) (.add (.iv 2) (.il 1))) (.le (.add (.iv 2) (.il 1)) (.il 9223372036854775807)))]) := by kernel_rfl
theorem b : sbegin prog 25 = some s0 := by kernel_rfl
end lift_Child
end X
namespace X
open Go Go.Abs Go.Sym
set_option linter.unusedVariables false
/-! haruspex/haruspexlaw14.over -/
namespace over
abbrev f : Nat := 31
noncomputable def K : Cfg := ⟨prog, pl, [], [27], []⟩
noncomputable def s0 : SMach := ⟨⟨31, 22, (m (.int .i64 (.toI (.vv 0))) (l (.pure 3 (.vv 1) (.cell 1 0))) z z z), [.code (C 31 [])], [], .run, false, none⟩, [], ⟨0, 2, 2, z⟩⟩
noncomputable def s1 : SMach := ⟨⟨31, 22, (m (.int .i64 (.toI (.vv 0))) (n (l (.view 0)) (l (.int .i64 (.len (.vv 1)))) z z) (n z (l (.int .i64 (.iv 0))) z z) z (n (l (.pure 3 (.vv 1) (.cell 2 0))) z z z)), [.code (C 31 [1, 1, 0, 1, 0, 0]), .inLoop (C 31 [1, 1, 0, 1, 0, 0]), .inBlock 0, .code (C 31 [1, 1, 1])], [], .run, false, none⟩, [], ⟨1, 3, 3, (l (.arr 50 (.vv 2) 0))⟩⟩
theorem p0 : stretch K 17 [] s0 s1 [] ⟨[(.il 0)], [], [(.vv 0), (.vv 1), .nil], [(.cell 0 0), (.cell 1 0), (.cell 1 0)]⟩ [(0, none)] = some (s1, []) := by kernel_rfl
theorem p1 : stretch K 30 [true] s1 s1 [] ⟨[(.add (.iv 0) (.il 1))], [], [(.vv 0), (.vv 1), (.snoc (.vv 2) (.snoc (.snoc .emp (.ofI (.toI (.get (.vv 3) (.il 0))))) (.ofI (.toI (.get (.vv 3) (.il 1))))))], [(.cell 0 0), (.cell 1 0), (.cell 2 0)]⟩ [(0, (some 2))] = some (s1, [.ask (.lt (.iv 0) (.len (.vv 1))), .ask (.and (.le (.il 0) (.iv 0)) (.lt (.iv 0) (.len (.vv 1)))), .call 27 [(.ofI (.toI (.get (.vv 1) (.iv 0)))), (.ofI (.toI (.vv 0)))], .ask (.le (.add (.len (.vv 2)) (.il 1)) (.il 4398046510592)), .ask (.and (.le (.il (-9223372036854775808)) (.add (.iv 0) (.il 1))) (.le (.add (.iv 0) (.il 1)) (.il 9223372036854775807)))]) := by kernel_rfl
theorem p2 : last K 31 13 [false] s1 = some ((.vv 2), [.ask (.not (.lt (.iv 0) (.len (.vv 1))))]) := by kernel_rfl
theorem b : sbegin prog 31 = some s0 := by kernel_rfl
end over
end X
namespace X
open Go Go.Abs Go.Sym
set_option linter.unusedVariables false
/-! slices.Equal[[]haruspex/api.Q,haruspex/api.Q] -/
namespace equalQ
abbrev f : Nat := 22
noncomputable def K : Cfg := ⟨prog, pl, [], [], []⟩
noncomputable def s0 : SMach := ⟨⟨22, 26, (m (.pure 50 (.vv 0) (.cell 0 0)) (l (.pure 50 (.vv 1) (.cell 1 0))) z z z), [.code (C 22 [])], [], .run, false, none⟩, [], ⟨0, 2, 2, z⟩⟩
noncomputable def s1 : SMach := ⟨⟨22, 26, (m (.pure 50 (.vv 0) (.cell 2 0)) (m (.pure 50 (.vv 1) (.cell 3 0)) z z (l (.int .i64 (.iv 0))) z) z z (n z (l (.int .i64 (.len (.vv 0)))) z z)), [.code (C 22 [1, 1, 0, 1, 0, 0]), .inLoop (C 22 [1, 1, 0, 1, 0, 0]), .inBlock 0, .code (C 22 [1, 1, 1])], [], .run, false, none⟩, [], ⟨0, 4, 2, z⟩⟩
theorem p1 : stretch K 24 [false] s0 s1 [] ⟨[(.il 0)], [], [(.vv 0), (.vv 1)], [(.cell 0 0), (.cell 1 0), (.cell 0 0), (.cell 1 0)]⟩ [] = some (s1, [.ask (.not (.not (.eq (.len (.vv 0)) (.len (.vv 1)))))]) := by kernel_rfl
theorem p3 : stretch K 34 [true, false] s1 s1 [] ⟨[(.add (.iv 0) (.il 1))], [], [(.vv 0), (.vv 1)], [(.cell 0 0), (.cell 1 0), (.cell 2 0), (.cell 3 0)]⟩ [] = some (s1, [.ask (.lt (.iv 0) (.len (.vv 0))), .ask (.and (.le (.il 0) (.iv 0)) (.lt (.iv 0) (.len (.vv 0)))), .ask (.and (.le (.il 0) (.iv 0)) (.lt (.iv 0) (.len (.vv 1)))), .ask (.not (.not (.and (.eq (.toI (.get (.get (.vv 0) (.iv 0)) (.il 0))) (.toI (.get (.get (.vv 1) (.iv 0)) (.il 0)))) (.eq (.toI (.get (.get (.vv 0) (.iv 0)) (.il 1))) (.toI (.get (.get (.vv 1) (.iv 0)) (.il 1))))))), .ask (.and (.le (.il (-9223372036854775808)) (.add (.iv 0) (.il 1))) (.le (.add (.iv 0) (.il 1)) (.il 9223372036854775807)))]) := by kernel_rfl
theorem p4 : last K 22 12 [false] s1 = some ((.ofB (.bl true)), [.ask (.not (.lt (.iv 0) (.len (.vv 0))))]) := by kernel_rfl
theorem b : sbegin prog 22 = some s0 := by kernel_rfl
end equalQ
end X
namespace X
open Go Go.Abs Go.Sym
set_option linter.unusedVariables false
/-! haruspex/haruspexref14.Split -/
namespace Split
abbrev f : Nat := 40
noncomputable def K : Cfg := ⟨prog, pl, [], [], []⟩
noncomputable def s0 : SMach := ⟨⟨40, 42, (m (.int .i64 (.toI (.vv 0))) (l (.int .i64 (.toI (.vv 1)))) (l (.pure 5 (.vv 2) (.cell 2 0))) z z), [.code (C 40 [])], [], .run, false, none⟩, [], ⟨0, 3, 3, z⟩⟩
noncomputable def s1 : SMach := ⟨⟨40, 42, (m (.int .i64 (.toI (.vv 0))) (n z (l (.int .i64 (.iv 1))) z z) (l (.pure 5 (.vv 2) (.cell 3 0))) (n (l (.view 0)) z z z) (n (l (.int .i64 (.iv 0))) z z z)), [.code (C 40 [1, 1, 1, 0, 1, 0, 0]), .inLoop (C 40 [1, 1, 1, 0, 1, 0, 0]), .inBlock 0, .code (C 40 [1, 1, 1, 1])], [], .run, false, none⟩, [], ⟨1, 4, 4, (l (.arr 3 (.vv 3) 0))⟩⟩
theorem p0 : stretch K 20 [] s0 s1 [] ⟨[(.toI (.vv 1)), (.il 0)], [], [(.vv 0), (.vv 1), (.vv 2), .nil], [(.cell 0 0), (.cell 1 0), (.cell 2 0), (.cell 2 0)]⟩ [(0, none)] = some (s1, []) := by kernel_rfl
theorem p1 : stretch K 69 [true, true, true] s1 s1 [] ⟨[(.sub (.iv 0) (.rem (.toI (.get (.vv 2) (.iv 1))) (.add (.iv 0) (.il 1)))), (.add (.iv 1) (.il 1))], [], [(.vv 0), (.vv 1), (.vv 2), (.snoc (.vv 3) (.ofI (.rem (.toI (.get (.vv 2) (.iv 1))) (.add (.iv 0) (.il 1)))))], [(.cell 0 0), (.cell 1 0), (.cell 2 0), (.cell 3 0)]⟩ [(0, (some 2))] = some (s1, [.ask (.lt (.iv 1) (.toI (.vv 0))), .ask (.and (.le (.il (-9223372036854775808)) (.sub (.toI (.vv 0)) (.il 1))) (.le (.sub (.toI (.vv 0)) (.il 1)) (.il 9223372036854775807))), .ask (.lt (.iv 1) (.sub (.toI (.vv 0)) (.il 1))), .ask (.lt (.iv 1) (.len (.vv 2))), .ask (.and (.le (.il 0) (.iv 1)) (.lt (.iv 1) (.len (.vv 2)))), .ask (.and (.le (.il (-9223372036854775808)) (.toI (.get (.vv 2) (.iv 1)))) (.le (.toI (.get (.vv 2) (.iv 1))) (.il 9223372036854775807))), .ask (.and (.le (.il (-9223372036854775808)) (.add (.iv 0) (.il 1))) (.le (.add (.iv 0) (.il 1)) (.il 9223372036854775807))), .ask (.not (.eq (.add (.iv 0) (.il 1)) (.il 0))), .ask (.le (.add (.len (.vv 3)) (.il 1)) (.il 8796093021696)), .ask (.and (.le (.il (-9223372036854775808)) (.sub (.iv 0) (.rem (.toI (.get (.vv 2) (.iv 1))) (.add (.iv 0) (.il 1))))) (.le (.sub (.iv 0) (.rem (.toI (.get (.vv 2) (.iv 1))) (.add (.iv 0) (.il 1)))) (.il 9223372036854775807))), .ask (.and (.le (.il (-9223372036854775808)) (.add (.iv 1) (.il 1))) (.le (.add (.iv 1) (.il 1)) (.il 9223372036854775807)))]) := by kernel_rfl
theorem p2 : stretch K 59 [true, true, false] s1 s1 [] ⟨[(.sub (.iv 0) (.il 0)), (.add (.iv 1) (.il 1))], [], [(.vv 0), (.vv 1), (.vv 2), (.snoc (.vv 3) (.ofI (.il 0)))], [(.cell 0 0), (.cell 1 0), (.cell 2 0), (.cell 3 0)]⟩ [(0, (some 2))] = some (s1, [.ask (.lt (.iv 1) (.toI (.vv 0))), .ask (.and (.le (.il (-9223372036854775808)) (.sub (.toI (.vv 0)) (.il 1))) (.le (.sub (.toI (.vv 0)) (.il 1)) (.il 9223372036854775807))), .ask (.lt (.iv 1) (.sub (.toI (.vv 0)) (.il 1))), .ask (.not (.lt (.iv 1) (.len (.vv 2)))), .ask (.le (.add (.len (.vv 3)) (.il 1)) (.il 8796093021696)), .ask (.and (.le (.il (-9223372036854775808)) (.sub (.iv 0) (.il 0))) (.le (.sub (.iv 0) (.il 0)) (.il 9223372036854775807))), .ask (.and (.le (.il (-9223372036854775808)) (.add (.iv 1) (.il 1))) (.le (.add (.iv 1) (.il 1)) (.il 9223372036854775807)))]) := by kernel_rfl
theorem p3 : stretch K 47 [true, false] s1 s1 [] ⟨[(.sub (.iv 0) (.iv 0)), (.add (.iv 1) (.il 1))], [], [(.vv 0), (.vv 1), (.vv 2), (.snoc (.vv 3) (.ofI (.iv 0)))], [(.cell 0 0), (.cell 1 0), (.cell 2 0), (.cell 3 0)]⟩ [(0, (some 2))] = some (s1, [.ask (.lt (.iv 1) (.toI (.vv 0))), .ask (.and (.le (.il (-9223372036854775808)) (.sub (.toI (.vv 0)) (.il 1))) (.le (.sub (.toI (.vv 0)) (.il 1)) (.il 9223372036854775807))), .ask (.not (.lt (.iv 1) (.sub (.toI (.vv 0)) (.il 1)))), .ask (.le (.add (.len (.vv 3)) (.il 1)) (.il 8796093021696)), .ask (.and (.le (.il (-9223372036854775808)) (.sub (.iv 0) (.iv 0))) (.le (.sub (.iv 0) (.iv 0)) (.il 9223372036854775807))), .ask (.and (.le (.il (-9223372036854775808)) (.add (.iv 1) (.il 1))) (.le (.add (.iv 1) (.il 1)) (.il 9223372036854775807)))]) := by kernel_rfl
theorem p4 : last K 40 15 [false] s1 = some ((.vv 3), [.ask (.not (.lt (.iv 1) (.toI (.vv 0))))]) := by kernel_rfl
theorem b : sbegin prog 40 = some s0 := by kernel_rfl
end Split
end X
namespace X
open Go Go.Abs Go.Sym
set_option linter.unusedVariables false
/-! (haruspex/haruspexlaw14.Known).Of -/
namespace KnownOf
abbrev f : Nat := 16
noncomputable def K : Cfg := ⟨prog, pl, [(16, 8), (16, 18), (16, 29)], [], []⟩
noncomputable def s0 : SMach := ⟨⟨16, 41, (m (.agg [(.int .i64 (.toI (.get (.vv 0) (.il 0)))), (.int .i64 (.toI (.get (.vv 0) (.il 1)))), (.int .i64 (.toI (.get (.vv 0) (.il 2))))]) (l (.agg [(.int .i64 (.toI (.get (.vv 1) (.il 0)))), (.int .i64 (.toI (.get (.vv 1) (.il 1)))), (.int .i64 (.toI (.get (.vv 1) (.il 2)))), (.pure 64 (.get (.vv 1) (.il 3)) (.cell 1 3))])) z z z), [.code (C 16 [])], [], .run, false, none⟩, [], ⟨0, 2, 2, z⟩⟩
theorem p0 : last K 16 50 [] s0 = some ((.snoc (.snoc (.snoc .emp (.ofI (.rem (.wrap .u64 (.toI (.get (.vv 0) (.il 0)))) (.add (.toI (.get (.vv 1) (.il 1))) (.il 1))))) (.ofI (.rem (.wrap .u64 (.toI (.get (.vv 0) (.il 1)))) (.add (.sub (.toI (.get (.vv 1) (.il 1))) (.rem (.wrap .u64 (.toI (.get (.vv 0) (.il 0)))) (.add (.toI (.get (.vv 1) (.il 1))) (.il 1)))) (.il 1))))) (.ofI (.sub (.rem (.wrap .u64 (.toI (.get (.vv 0) (.il 2)))) (.add (.len (.get (.get (.vv 1) (.il 3)) (.il 0))) (.il 1))) (.il 1)))), [.ask (.and (.le (.il (-9223372036854775808)) (.add (.toI (.get (.vv 1) (.il 1))) (.il 1))) (.le (.add (.toI (.get (.vv 1) (.il 1))) (.il 1)) (.il 9223372036854775807))), .ask (.and (.le (.il 0) (.add (.toI (.get (.vv 1) (.il 1))) (.il 1))) (.le (.add (.toI (.get (.vv 1) (.il 1))) (.il 1)) (.il 18446744073709551615))), .ask (.not (.eq (.add (.toI (.get (.vv 1) (.il 1))) (.il 1)) (.il 0))), .ask (.and (.le (.il (-9223372036854775808)) (.rem (.wrap .u64 (.toI (.get (.vv 0) (.il 0)))) (.add (.toI (.get (.vv 1) (.il 1))) (.il 1)))) (.le (.rem (.wrap .u64 (.toI (.get (.vv 0) (.il 0)))) (.add (.toI (.get (.vv 1) (.il 1))) (.il 1))) (.il 9223372036854775807))), .ask (.and (.le (.il (-9223372036854775808)) (.sub (.toI (.get (.vv 1) (.il 1))) (.rem (.wrap .u64 (.toI (.get (.vv 0) (.il 0)))) (.add (.toI (.get (.vv 1) (.il 1))) (.il 1))))) (.le (.sub (.toI (.get (.vv 1) (.il 1))) (.rem (.wrap .u64 (.toI (.get (.vv 0) (.il 0)))) (.add (.toI (.get (.vv 1) (.il 1))) (.il 1)))) (.il 9223372036854775807))), .ask (.and (.le (.il (-9223372036854775808)) (.add (.sub (.toI (.get (.vv 1) (.il 1))) (.rem (.wrap .u64 (.toI (.get (.vv 0) (.il 0)))) (.add (.toI (.get (.vv 1) (.il 1))) (.il 1)))) (.il 1))) (.le (.add (.sub (.toI (.get (.vv 1) (.il 1))) (.rem (.wrap .u64 (.toI (.get (.vv 0) (.il 0)))) (.add (.toI (.get (.vv 1) (.il 1))) (.il 1)))) (.il 1)) (.il 9223372036854775807))), .ask (.and (.le (.il 0) (.add (.sub (.toI (.get (.vv 1) (.il 1))) (.rem (.wrap .u64 (.toI (.get (.vv 0) (.il 0)))) (.add (.toI (.get (.vv 1) (.il 1))) (.il 1)))) (.il 1))) (.le (.add (.sub (.toI (.get (.vv 1) (.il 1))) (.rem (.wrap .u64 (.toI (.get (.vv 0) (.il 0)))) (.add (.toI (.get (.vv 1) (.il 1))) (.il 1)))) (.il 1)) (.il 18446744073709551615))), .ask (.not (.eq (.add (.sub (.toI (.get (.vv 1) (.il 1))) (.rem (.wrap .u64 (.toI (.get (.vv 0) (.il 0)))) (.add (.toI (.get (.vv 1) (.il 1))) (.il 1)))) (.il 1)) (.il 0))), .ask (.and (.le (.il (-9223372036854775808)) (.rem (.wrap .u64 (.toI (.get (.vv 0) (.il 1)))) (.add (.sub (.toI (.get (.vv 1) (.il 1))) (.rem (.wrap .u64 (.toI (.get (.vv 0) (.il 0)))) (.add (.toI (.get (.vv 1) (.il 1))) (.il 1)))) (.il 1)))) (.le (.rem (.wrap .u64 (.toI (.get (.vv 0) (.il 1)))) (.add (.sub (.toI (.get (.vv 1) (.il 1))) (.rem (.wrap .u64 (.toI (.get (.vv 0) (.il 0)))) (.add (.toI (.get (.vv 1) (.il 1))) (.il 1)))) (.il 1))) (.il 9223372036854775807))), .ask (.lt (.il 0) (.len (.get (.vv 1) (.il 3)))), .ask (.and (.le (.il (-9223372036854775808)) (.add (.len (.get (.get (.vv 1) (.il 3)) (.il 0))) (.il 1))) (.le (.add (.len (.get (.get (.vv 1) (.il 3)) (.il 0))) (.il 1)) (.il 9223372036854775807))), .ask (.and (.le (.il 0) (.add (.len (.get (.get (.vv 1) (.il 3)) (.il 0))) (.il 1))) (.le (.add (.len (.get (.get (.vv 1) (.il 3)) (.il 0))) (.il 1)) (.il 18446744073709551615))), .ask (.not (.eq (.add (.len (.get (.get (.vv 1) (.il 3)) (.il 0))) (.il 1)) (.il 0))), .ask (.and (.le (.il (-9223372036854775808)) (.rem (.wrap .u64 (.toI (.get (.vv 0) (.il 2)))) (.add (.len (.get (.get (.vv 1) (.il 3)) (.il 0))) (.il 1)))) (.le (.rem (.wrap .u64 (.toI (.get (.vv 0) (.il 2)))) (.add (.len (.get (.get (.vv 1) (.il 3)) (.il 0))) (.il 1))) (.il 9223372036854775807))), .ask (.and (.le (.il (-9223372036854775808)) (.sub (.rem (.wrap .u64 (.toI (.get (.vv 0) (.il 2)))) (.add (.len (.get (.get (.vv 1) (.il 3)) (.il 0))) (.il 1))) (.il 1))) (.le (.sub (.rem (.wrap .u64 (.toI (.get (.vv 0) (.il 2)))) (.add (.len (.get (.get (.vv 1) (.il 3)) (.il 0))) (.il 1))) (.il 1)) (.il 9223372036854775807)))]) := by kernel_rfl
theorem b : sbegin prog 16 = some s0 := by kernel_rfl
end KnownOf
end X
namespace X
open Go Go.Abs Go.Sym
set_option linter.unusedVariables false
/-! haruspex/haruspexlaw14.LiftEqual -/
namespace LiftEqual
abbrev f : Nat := 7
noncomputable def K : Cfg := ⟨prog, pl, [], [9, 40, 16, 23, 27, 25, 22, 31], []⟩
noncomputable def s0 : SMach := ⟨⟨7, 90, (m (.agg [(.int .u8 (.toI (.get (.vv 0) (.il 0)))), (.int .u8 (.toI (.get (.vv 0) (.il 1)))), (.int .u8 (.toI (.get (.vv 0) (.il 2)))), (.int .u8 (.toI (.get (.vv 0) (.il 3)))), (.pure 5 (.get (.vv 0) (.il 4)) (.cell 0 4))]) (l (.agg [(.int .i64 (.toI (.get (.vv 1) (.il 0)))), (.int .i64 (.toI (.get (.vv 1) (.il 1)))), (.int .i64 (.toI (.get (.vv 1) (.il 2))))])) z z z), [.code (C 7 [])], [], .run, false, none⟩, [], ⟨0, 2, 2, z⟩⟩
noncomputable def s1 : SMach := ⟨⟨17, 72, (n (l (.addr 2 0)) (l (.addr 3 0)) (l (.addr 4 0)) (l (.int .i64 (.iv 0)))), [.code (C 17 [1, 1, 1, 0, 1, 0, 0]), .inLoop (C 17 [1, 1, 1, 0, 1, 0, 0]), .inBlock 0, .code (C 17 [1, 1, 1, 1])], [], .run, false, none⟩, [⟨7, 90, (n z (n z z (l (.agg [(.int .u8 (.toI (.get (.vv 0) (.il 0)))), (.int .u8 (.toI (.get (.vv 0) (.il 1)))), (.int .u8 (.toI (.get (.vv 0) (.il 2)))), (.int .u8 (.toI (.get (.vv 0) (.il 3)))), (.pure 5 (.get (.vv 0) (.il 4)) (.cell 4 0))])) z) (l (.addr 1 0)) z), [R 7 [1, 1, 0] 1, .code (C 7 [1, 1, 1])], [], .run, false, none⟩], ⟨6, 5, 4, (n (m (.cells [(.int .i64 (.toI (.get (.vv 1) (.il 0)))), (.int .i64 (.toI (.get (.vv 1) (.il 1)))), (.int .i64 (.toI (.get (.vv 1) (.il 2))))]) (l (.arr 64 (.vv 3) 0)) z z z) (l (.cells [(.int .u8 (.toI (.get (.vv 0) (.il 0)))), (.int .u8 (.toI (.get (.vv 0) (.il 1)))), (.int .u8 (.toI (.get (.vv 0) (.il 2)))), (.int .u8 (.toI (.get (.vv 0) (.il 3)))), (.pure 5 (.get (.vv 0) (.il 4)) (.cell 3 0))])) (l (.cells [(.int .i64 (.il 0)), (.int .i64 (.il 0)), (.int .i64 (.il 0)), .nils])) (l (.cells [(.int .i64 (.add (.il 1) (.rem (.toI (.get (.vv 0) (.il 0))) (.il 20)))), (.int .i64 (.add (.il 1) (.rem (.toI (.get (.vv 0) (.il 1))) (.il 10)))), (.int .i64 (.rem (.toI (.get (.vv 0) (.il 2))) (.add (.add (.il 1) (.rem (.toI (.get (.vv 0) (.il 0))) (.il 20))) (.il 1)))), (.view 5)])))⟩⟩
noncomputable def s2 : SMach := ⟨⟨17, 72, (n (m (.addr 2 0) (l (.view 5)) z z z) (m (.addr 3 0) (l (.int .i64 (.iv 0))) z z z) (l (.addr 4 0)) (l (.int .i64 (.iv 1)))), [.code (C 17 [1, 1, 1, 0, 1, 0, 0, 1, 0, 0, 1, 0, 1, 0, 0]), .inLoop (C 17 [1, 1, 1, 0, 1, 0, 0, 1, 0, 0, 1, 0, 1, 0, 0]), .inBlock 2, .code (C 17 [1, 1, 1, 0, 1, 0, 0, 1, 0, 0, 1, 1]), .inBlock 1, .code (C 17 [1, 1, 1, 0, 1, 0, 0, 1, 1]), .inLoop (C 17 [1, 1, 1, 0, 1, 0, 0]), .inBlock 0, .code (C 17 [1, 1, 1, 1])], [], .run, false, none⟩, [⟨7, 90, (n z (n z z (l (.agg [(.int .u8 (.toI (.get (.vv 0) (.il 0)))), (.int .u8 (.toI (.get (.vv 0) (.il 1)))), (.int .u8 (.toI (.get (.vv 0) (.il 2)))), (.int .u8 (.toI (.get (.vv 0) (.il 3)))), (.pure 5 (.get (.vv 0) (.il 4)) (.cell 6 0))])) z) (l (.addr 1 0)) z), [R 7 [1, 1, 0] 1, .code (C 7 [1, 1, 1])], [], .run, false, none⟩], ⟨7, 7, 5, (n (m (.cells [(.int .i64 (.toI (.get (.vv 1) (.il 0)))), (.int .i64 (.toI (.get (.vv 1) (.il 1)))), (.int .i64 (.toI (.get (.vv 1) (.il 2))))]) (l (.arr 5 (.vv 3) 0)) z z z) (m (.cells [(.int .u8 (.toI (.get (.vv 0) (.il 0)))), (.int .u8 (.toI (.get (.vv 0) (.il 1)))), (.int .u8 (.toI (.get (.vv 0) (.il 2)))), (.int .u8 (.toI (.get (.vv 0) (.il 3)))), (.pure 5 (.get (.vv 0) (.il 4)) (.cell 5 0))]) (l (.arr 64 (.vv 4) 0)) z z z) (l (.cells [(.int .i64 (.il 0)), (.int .i64 (.il 0)), (.int .i64 (.il 0)), .nils])) (l (.cells [(.int .i64 (.add (.il 1) (.rem (.toI (.get (.vv 0) (.il 0))) (.il 20)))), (.int .i64 (.add (.il 1) (.rem (.toI (.get (.vv 0) (.il 1))) (.il 10)))), (.int .i64 (.rem (.toI (.get (.vv 0) (.il 2))) (.add (.add (.il 1) (.rem (.toI (.get (.vv 0) (.il 0))) (.il 20))) (.il 1)))), (.view 6)])))⟩⟩
noncomputable def s3 : SMach := ⟨⟨7, 90, (n (n (l (.addr 5 0)) z z z) (n z z z (l (.int .i64 (.iv 0)))) (m (.addr 1 0) z z z (l (.int .i64 (.iv 1)))) z), [.code (C 7 [1, 1, 1, 0, 1, 0, 0]), .inLoop (C 7 [1, 1, 1, 0, 1, 0, 0]), .inBlock 0, .code (C 7 [1, 1, 1, 1])], [], .run, false, none⟩, [], ⟨7, 5, 4, (n (m (.cells [(.int .i64 (.toI (.get (.vv 1) (.il 0)))), (.int .i64 (.toI (.get (.vv 1) (.il 1)))), (.int .i64 (.toI (.get (.vv 1) (.il 2))))]) (l (.cells [(.int .i64 (.add (.il 1) (.rem (.toI (.get (.vv 0) (.il 0))) (.il 20)))), (.int .i64 (.add (.il 1) (.rem (.toI (.get (.vv 0) (.il 1))) (.il 10)))), (.int .i64 (.rem (.toI (.get (.vv 0) (.il 2))) (.add (.add (.il 1) (.rem (.toI (.get (.vv 0) (.il 0))) (.il 20))) (.il 1)))), (.view 6)])) z z z) (n (l (.arr 64 (.vv 3) 0)) z z z) z z)⟩⟩
theorem p1 : stretch K 58 [false] s0 s1 [] ⟨[(.il 0)], [], [(.vv 0), (.vv 1), (.vv 2), .nil], [(.cell 0 0), (.cell 1 0), (.cell 2 0), (.cell 0 4), (.cell 0 4)]⟩ [(2, (some 2)), (3, (some 3)), (4, (some 4)), (5, none), (1, (some 1))] = some (s1, [.call 9 [], .ask (.not (.not (.toB (.vv 2)))), .ask (.and (.le (.il (-9223372036854775808)) (.rem (.toI (.get (.vv 0) (.il 0))) (.il 20))) (.le (.rem (.toI (.get (.vv 0) (.il 0))) (.il 20)) (.il 9223372036854775807))), .ask (.and (.le (.il (-9223372036854775808)) (.add (.il 1) (.rem (.toI (.get (.vv 0) (.il 0))) (.il 20)))) (.le (.add (.il 1) (.rem (.toI (.get (.vv 0) (.il 0))) (.il 20))) (.il 9223372036854775807))), .ask (.and (.le (.il (-9223372036854775808)) (.rem (.toI (.get (.vv 0) (.il 1))) (.il 10))) (.le (.rem (.toI (.get (.vv 0) (.il 1))) (.il 10)) (.il 9223372036854775807))), .ask (.and (.le (.il (-9223372036854775808)) (.add (.il 1) (.rem (.toI (.get (.vv 0) (.il 1))) (.il 10)))) (.le (.add (.il 1) (.rem (.toI (.get (.vv 0) (.il 1))) (.il 10))) (.il 9223372036854775807))), .ask (.and (.le (.il (-9223372036854775808)) (.toI (.get (.vv 0) (.il 2)))) (.le (.toI (.get (.vv 0) (.il 2))) (.il 9223372036854775807))), .ask (.and (.le (.il (-9223372036854775808)) (.add (.add (.il 1) (.rem (.toI (.get (.vv 0) (.il 0))) (.il 20))) (.il 1))) (.le (.add (.add (.il 1) (.rem (.toI (.get (.vv 0) (.il 0))) (.il 20))) (.il 1)) (.il 9223372036854775807))), .ask (.not (.eq (.add (.add (.il 1) (.rem (.toI (.get (.vv 0) (.il 0))) (.il 20))) (.il 1)) (.il 0)))]) := by kernel_rfl
theorem p2 : stretch K 23 [true] s1 s2 [] ⟨[(.il 0), (.iv 0)], [], [(.vv 0), (.vv 1), (.vv 2), .nil, (.vv 3)], [(.cell 0 0), (.cell 1 0), (.cell 2 0), (.cell 3 0), (.cell 4 0), (.cell 3 0), (.cell 4 0)]⟩ [(2, (some 2)), (3, (some 3)), (4, (some 4)), (6, (some 5)), (5, none), (1, (some 1))] = some (s2, [.ask (.le (.iv 0) (.add (.il 1) (.rem (.toI (.get (.vv 0) (.il 1))) (.il 10))))]) := by kernel_rfl
theorem p3 : stretch K 30 [false] s1 s3 [] ⟨[(.len (.vv 3)), (.il 0)], [], [(.vv 0), (.vv 1), (.vv 2), (.vv 3)], [(.cell 0 0), (.cell 1 0), (.cell 2 0), (.cell 3 0), (.cell 4 0)]⟩ [(1, (some 1)), (5, (some 6)), (6, (some 5))] = some (s3, [.ask (.not (.le (.iv 0) (.add (.il 1) (.rem (.toI (.get (.vv 0) (.il 1))) (.il 10)))))]) := by kernel_rfl
theorem p4 : stretch K 41 [true, true] s2 s2 [] ⟨[(.add (.iv 0) (.il 1)), (.iv 1)], [], [(.vv 0), (.vv 1), (.vv 2), (.snoc (.vv 3) (.ofI (.toI (.get (.get (.vv 0) (.il 4)) (.rem (.add (.mul (.il 3) (.iv 1)) (.iv 0)) (.len (.get (.vv 0) (.il 4)))))))), (.vv 4)], [(.cell 0 0), (.cell 1 0), (.cell 2 0), (.cell 3 0), (.cell 4 0), (.cell 5 0), (.cell 6 0)]⟩ [(2, (some 2)), (3, (some 3)), (4, (some 4)), (6, (some 6)), (5, (some 8)), (1, (some 1))] = some (s2, [.ask (.lt (.iv 0) (.il 4)), .ask (.lt (.il 0) (.len (.get (.vv 0) (.il 4)))), .ask (.and (.le (.il (-9223372036854775808)) (.mul (.il 3) (.iv 1))) (.le (.mul (.il 3) (.iv 1)) (.il 9223372036854775807))), .ask (.and (.le (.il (-9223372036854775808)) (.add (.mul (.il 3) (.iv 1)) (.iv 0))) (.le (.add (.mul (.il 3) (.iv 1)) (.iv 0)) (.il 9223372036854775807))), .ask (.not (.eq (.len (.get (.vv 0) (.il 4))) (.il 0))), .ask (.and (.le (.il 0) (.rem (.add (.mul (.il 3) (.iv 1)) (.iv 0)) (.len (.get (.vv 0) (.il 4))))) (.lt (.rem (.add (.mul (.il 3) (.iv 1)) (.iv 0)) (.len (.get (.vv 0) (.il 4)))) (.len (.get (.vv 0) (.il 4))))), .ask (.le (.add (.len (.vv 3)) (.il 1)) (.il 70368744177152)), .ask (.and (.le (.il (-9223372036854775808)) (.add (.iv 0) (.il 1))) (.le (.add (.iv 0) (.il 1)) (.il 9223372036854775807)))]) := by kernel_rfl
theorem p5 : stretch K 38 [true, false] s2 s1 [] ⟨[(.add (.iv 1) (.il 1))], [], [(.vv 0), (.vv 1), (.vv 2), (.snoc (.vv 4) (.vv 5))], [(.cell 0 0), (.cell 1 0), (.cell 2 0), (.cell 5 0), (.cell 6 0)]⟩ [(2, (some 2)), (3, (some 3)), (4, (some 4)), (5, (some 8)), (1, (some 1))] = some (s1, [.ask (.lt (.iv 0) (.il 4)), .ask (.not (.lt (.il 0) (.len (.get (.vv 0) (.il 4))))), .ask (.and (.le (.il (-9223372036854775808)) (.rem (.toI (.get (.vv 0) (.il 3))) (.il 3))) (.le (.rem (.toI (.get (.vv 0) (.il 3))) (.il 3)) (.il 9223372036854775807))), .ask (.and (.le (.il (-9223372036854775808)) (.add (.il 2) (.rem (.toI (.get (.vv 0) (.il 3))) (.il 3)))) (.le (.add (.il 2) (.rem (.toI (.get (.vv 0) (.il 3))) (.il 3))) (.il 9223372036854775807))), .call 40 [(.ofI (.add (.il 2) (.rem (.toI (.get (.vv 0) (.il 3))) (.il 3)))), (.ofI (.add (.il 1) (.rem (.toI (.get (.vv 0) (.il 0))) (.il 20)))), (.vv 3)], .ask (.le (.add (.len (.vv 4)) (.il 1)) (.il 2932031006890)), .ask (.and (.le (.il (-9223372036854775808)) (.add (.iv 1) (.il 1))) (.le (.add (.iv 1) (.il 1)) (.il 9223372036854775807)))]) := by kernel_rfl
theorem p6 : stretch K 38 [false] s2 s1 [] ⟨[(.add (.iv 1) (.il 1))], [], [(.vv 0), (.vv 1), (.vv 2), (.snoc (.vv 4) (.vv 5))], [(.cell 0 0), (.cell 1 0), (.cell 2 0), (.cell 5 0), (.cell 6 0)]⟩ [(2, (some 2)), (3, (some 3)), (4, (some 4)), (5, (some 8)), (1, (some 1))] = some (s1, [.ask (.not (.lt (.iv 0) (.il 4))), .ask (.and (.le (.il (-9223372036854775808)) (.rem (.toI (.get (.vv 0) (.il 3))) (.il 3))) (.le (.rem (.toI (.get (.vv 0) (.il 3))) (.il 3)) (.il 9223372036854775807))), .ask (.and (.le (.il (-9223372036854775808)) (.add (.il 2) (.rem (.toI (.get (.vv 0) (.il 3))) (.il 3)))) (.le (.add (.il 2) (.rem (.toI (.get (.vv 0) (.il 3))) (.il 3))) (.il 9223372036854775807))), .call 40 [(.ofI (.add (.il 2) (.rem (.toI (.get (.vv 0) (.il 3))) (.il 3)))), (.ofI (.add (.il 1) (.rem (.toI (.get (.vv 0) (.il 0))) (.il 20)))), (.vv 3)], .ask (.le (.add (.len (.vv 4)) (.il 1)) (.il 2932031006890)), .ask (.and (.le (.il (-9223372036854775808)) (.add (.iv 1) (.il 1))) (.le (.add (.iv 1) (.il 1)) (.il 9223372036854775807)))]) := by kernel_rfl
theorem p7 : stretch K 31 [true] s3 s3 [] ⟨[(.iv 0), (.add (.iv 1) (.il 1))], [], [(.vv 0), (.vv 1), (.vv 2), (.set (.vv 3) (.iv 1) (.get (.vv 3) (.il 0)))], [(.cell 0 0), (.cell 1 0), (.cell 2 0), (.cell 3 0), (.cell 4 0)]⟩ [(1, (some 1)), (5, (some 5)), (6, (some 6))] = some (s3, [.ask (.lt (.iv 1) (.iv 0)), .ask (.lt (.il 0) (.len (.vv 3))), .ask (.lt (.il 0) (.len (.vv 3))), .ask (.and (.le (.il 0) (.iv 1)) (.lt (.iv 1) (.len (.vv 3)))), .ask (.and (.le (.il 0) (.iv 1)) (.lt (.iv 1) (.len (.vv 3)))), .ask (.and (.le (.il (-9223372036854775808)) (.add (.iv 1) (.il 1))) (.le (.add (.iv 1) (.il 1)) (.il 9223372036854775807)))]) := by kernel_rfl
theorem p8 : last K 7 52 [false, true] s3 = some ((.ofB (.eq (.toI (.get (.vv 5) (.il 1))) (.il 4))), [.ask (.not (.lt (.iv 1) (.iv 0))), .call 16 [(.snoc (.snoc (.snoc .emp (.ofI (.toI (.get (.vv 1) (.il 0))))) (.ofI (.toI (.get (.vv 1) (.il 1))))) (.ofI (.toI (.get (.vv 1) (.il 2))))), (.snoc (.snoc (.snoc (.snoc .emp (.ofI (.add (.il 1) (.rem (.toI (.get (.vv 0) (.il 0))) (.il 20))))) (.ofI (.add (.il 1) (.rem (.toI (.get (.vv 0) (.il 1))) (.il 10))))) (.ofI (.rem (.toI (.get (.vv 0) (.il 2))) (.add (.add (.il 1) (.rem (.toI (.get (.vv 0) (.il 0))) (.il 20))) (.il 1))))) (.vv 3))], .call 23 [(.snoc (.snoc (.snoc (.snoc .emp (.ofI (.add (.il 1) (.rem (.toI (.get (.vv 0) (.il 0))) (.il 20))))) (.ofI (.add (.il 1) (.rem (.toI (.get (.vv 0) (.il 1))) (.il 10))))) (.ofI (.rem (.toI (.get (.vv 0) (.il 2))) (.add (.add (.il 1) (.rem (.toI (.get (.vv 0) (.il 0))) (.il 20))) (.il 1))))) (.vv 3)), (.ofI (.toI (.get (.vv 4) (.il 0)))), (.ofI (.toI (.get (.vv 4) (.il 1)))), (.ofI (.toI (.get (.vv 4) (.il 2))))], .ask (.and (.le (.il (-9223372036854775808)) (.add (.toI (.get (.vv 4) (.il 0))) (.toI (.get (.vv 4) (.il 1))))) (.le (.add (.toI (.get (.vv 4) (.il 0))) (.toI (.get (.vv 4) (.il 1)))) (.il 9223372036854775807))), .ask (.eq (.add (.toI (.get (.vv 4) (.il 0))) (.toI (.get (.vv 4) (.il 1)))) (.add (.il 1) (.rem (.toI (.get (.vv 0) (.il 1))) (.il 10))))]) := by kernel_rfl
theorem p9 : last K 7 60 [false, false, true] s3 = some ((.ofB (.eq (.toI (.get (.vv 5) (.il 1))) (.il 7))), [.ask (.not (.lt (.iv 1) (.iv 0))), .call 16 [(.snoc (.snoc (.snoc .emp (.ofI (.toI (.get (.vv 1) (.il 0))))) (.ofI (.toI (.get (.vv 1) (.il 1))))) (.ofI (.toI (.get (.vv 1) (.il 2))))), (.snoc (.snoc (.snoc (.snoc .emp (.ofI (.add (.il 1) (.rem (.toI (.get (.vv 0) (.il 0))) (.il 20))))) (.ofI (.add (.il 1) (.rem (.toI (.get (.vv 0) (.il 1))) (.il 10))))) (.ofI (.rem (.toI (.get (.vv 0) (.il 2))) (.add (.add (.il 1) (.rem (.toI (.get (.vv 0) (.il 0))) (.il 20))) (.il 1))))) (.vv 3))], .call 23 [(.snoc (.snoc (.snoc (.snoc .emp (.ofI (.add (.il 1) (.rem (.toI (.get (.vv 0) (.il 0))) (.il 20))))) (.ofI (.add (.il 1) (.rem (.toI (.get (.vv 0) (.il 1))) (.il 10))))) (.ofI (.rem (.toI (.get (.vv 0) (.il 2))) (.add (.add (.il 1) (.rem (.toI (.get (.vv 0) (.il 0))) (.il 20))) (.il 1))))) (.vv 3)), (.ofI (.toI (.get (.vv 4) (.il 0)))), (.ofI (.toI (.get (.vv 4) (.il 1)))), (.ofI (.toI (.get (.vv 4) (.il 2))))], .ask (.and (.le (.il (-9223372036854775808)) (.add (.toI (.get (.vv 4) (.il 0))) (.toI (.get (.vv 4) (.il 1))))) (.le (.add (.toI (.get (.vv 4) (.il 0))) (.toI (.get (.vv 4) (.il 1)))) (.il 9223372036854775807))), .ask (.not (.eq (.add (.toI (.get (.vv 4) (.il 0))) (.toI (.get (.vv 4) (.il 1)))) (.add (.il 1) (.rem (.toI (.get (.vv 0) (.il 1))) (.il 10))))), .ask (.not (.eq (.toI (.get (.vv 5) (.il 1))) (.il 0)))]) := by kernel_rfl
theorem p10 : last K 7 95 [false, false, false, true, true] s3 = some ((.ofB (.toB (.vv 9))), [.ask (.not (.lt (.iv 1) (.iv 0))), .call 16 [(.snoc (.snoc (.snoc .emp (.ofI (.toI (.get (.vv 1) (.il 0))))) (.ofI (.toI (.get (.vv 1) (.il 1))))) (.ofI (.toI (.get (.vv 1) (.il 2))))), (.snoc (.snoc (.snoc (.snoc .emp (.ofI (.add (.il 1) (.rem (.toI (.get (.vv 0) (.il 0))) (.il 20))))) (.ofI (.add (.il 1) (.rem (.toI (.get (.vv 0) (.il 1))) (.il 10))))) (.ofI (.rem (.toI (.get (.vv 0) (.il 2))) (.add (.add (.il 1) (.rem (.toI (.get (.vv 0) (.il 0))) (.il 20))) (.il 1))))) (.vv 3))], .call 23 [(.snoc (.snoc (.snoc (.snoc .emp (.ofI (.add (.il 1) (.rem (.toI (.get (.vv 0) (.il 0))) (.il 20))))) (.ofI (.add (.il 1) (.rem (.toI (.get (.vv 0) (.il 1))) (.il 10))))) (.ofI (.rem (.toI (.get (.vv 0) (.il 2))) (.add (.add (.il 1) (.rem (.toI (.get (.vv 0) (.il 0))) (.il 20))) (.il 1))))) (.vv 3)), (.ofI (.toI (.get (.vv 4) (.il 0)))), (.ofI (.toI (.get (.vv 4) (.il 1)))), (.ofI (.toI (.get (.vv 4) (.il 2))))], .ask (.and (.le (.il (-9223372036854775808)) (.add (.toI (.get (.vv 4) (.il 0))) (.toI (.get (.vv 4) (.il 1))))) (.le (.add (.toI (.get (.vv 4) (.il 0))) (.toI (.get (.vv 4) (.il 1)))) (.il 9223372036854775807))), .ask (.not (.eq (.add (.toI (.get (.vv 4) (.il 0))) (.toI (.get (.vv 4) (.il 1)))) (.add (.il 1) (.rem (.toI (.get (.vv 0) (.il 1))) (.il 10))))), .ask (.not (.not (.eq (.toI (.get (.vv 5) (.il 1))) (.il 0)))), .call 25 [(.snoc (.snoc (.snoc (.snoc .emp (.ofI (.add (.il 1) (.rem (.toI (.get (.vv 0) (.il 0))) (.il 20))))) (.ofI (.add (.il 1) (.rem (.toI (.get (.vv 0) (.il 1))) (.il 10))))) (.ofI (.rem (.toI (.get (.vv 0) (.il 2))) (.add (.add (.il 1) (.rem (.toI (.get (.vv 0) (.il 0))) (.il 20))) (.il 1))))) (.vv 3)), (.ofI (.toI (.get (.vv 4) (.il 0)))), (.ofI (.toI (.get (.vv 4) (.il 1))))], .call 27 [(.ofI (.rem (.toI (.get (.vv 0) (.il 2))) (.add (.add (.il 1) (.rem (.toI (.get (.vv 0) (.il 0))) (.il 20))) (.il 1)))), (.ofI (.add (.il 1) (.rem (.toI (.get (.vv 0) (.il 0))) (.il 20))))], .ask (.and (.eq (.toI (.get (.get (.vv 5) (.il 0)) (.il 0))) (.toI (.get (.vv 7) (.il 0)))) (.eq (.toI (.get (.get (.vv 5) (.il 0)) (.il 1))) (.toI (.get (.vv 7) (.il 1))))), .ask (.eq (.toI (.get (.vv 6) (.il 1))) (.il 0)), .ask (.lt (.il 0) (.len (.vv 3))), .ask (.lt (.il 0) (.len (.vv 3))), .call 31 [(.ofI (.add (.il 1) (.rem (.toI (.get (.vv 0) (.il 0))) (.il 20)))), (.get (.vv 3) (.il 0))], .call 22 [(.get (.vv 6) (.il 0)), (.vv 8)]]) := by kernel_rfl
theorem b : sbegin prog 7 = some s0 := by kernel_rfl
end LiftEqual
end X
namespace X
end X

namespace X
open Go Go.Abs Go.Sym
set_option linter.unusedVariables false
theorem plain0 : (prog.funcs.toList.all fun fn => !(fn.name == "runtime.NumGoroutine")) = true := by kernel_rfl
theorem progOk : Go.Abs.ProgOk prog := ⟨by kernel_rfl, fun f fn e => by
  have h := plain0
  simp only [List.all_eq_true, Bool.not_eq_true'] at h
  exact h fn (Array.mem_toList_iff.2 (Array.mem_of_getElem? e))⟩

theorem gcd_loop (v : List V) (hv : v.length = 2) : ∀ (n a b : Nat), a ≤ n → Comes frac_gcd.K frac_gcd.f frac_gcd.s1 ⟨[a, b], [], v⟩ (.int (Nat.gcd a b)) := by
  obtain ⟨x, y, rfl⟩ : ∃ x y, v = [x, y] := by
    match v, hv with
    | [x, y], _ => exact ⟨x, y, rfl⟩
  intro n
  induction n with
  | zero =>
    intro a b h
    have : a = 0 := by omega
    subst this
    refine Comes.last progOk frac_gcd.p2 [] ⟨rfl, trivial⟩ ?_
    simp [E.v, E.i, Env.ext]
  | succ n ih =>
    intro a b h
    by_cases h0 : a = 0
    · subst h0
      refine Comes.last progOk frac_gcd.p2 [] ⟨rfl, trivial⟩ ?_
      simp [E.v, E.i, Env.ext]
    · refine Comes.step progOk frac_gcd.p1 [] ?_ ?_
      · simp [EvOk, E.b, E.i, Env.ext, ltB_iff, eqB_not]; omega
      · have := ih (b % a) a (by have := Nat.mod_lt b (Nat.pos_of_ne_zero h0); omega)
        rw [Nat.gcd_rec]
        exact this
theorem gcd_spec (a b : Nat) : Fn prog frac_gcd.f [.int a, .int b] (.int (Nat.gcd a b)) := by
  refine Fn.of (C := frac_gcd.K) frac_gcd.b ?_
  refine Comes.step progOk frac_gcd.p0 [] trivial ?_
  exact gcd_loop [.int a, .int b] rfl a a b (Nat.le_refl _)
end X
/- Contracts of the reference's numbers. -/

namespace X
open Go Go.Abs Go.Sym
set_option linter.unusedVariables false
set_option linter.unusedSimpArgs false


theorem digits_loop : ∀ (m : Nat) (n : Int) (x out : V) (l : List Nat), n.natAbs = m → -9223372036854775808 ≤ n → n ≤ 9223372036854775807 → Ints out l → l.length + (dg m).length ≤ 8796093021696 → ∃ r, Ints r (l ++ dg m) ∧ Comes ref01_digits.K ref01_digits.f ref01_digits.s1 ⟨[n], [], [x, out]⟩ r := by
  intro m
  induction m using Nat.strongRecOn with
  | _ m ih =>
    intro n x out l hm h1 h2 ho hl
    by_cases h0 : n = 0
    · subst h0
      have : m = 0 := by omega
      subst this
      refine ⟨out, by simpa [dg_zero] using ho, Comes.last progOk ref01_digits.p2 [] ?_ ?_⟩
      · simp [EvOk, E.b, E.i, E.v, Env.ext, Sub.ev, ltB_iff, leB_iff, eqB_iff, eqB_not, ltB_not, leB_not]
      · simp [EvOk, E.b, E.i, E.v, Env.ext, Sub.ev, ltB_iff, leB_iff, eqB_iff, eqB_not, ltB_not, leB_not]
    · have hmp : m ≠ 0 := by omega
      have hd : (dg m).length = (dg (m / 10000)).length + 1 := by rw [dg_pos hmp]; simp
      have hq : (n.tdiv 10000).natAbs = m / 10000 := by rw [Int.natAbs_tdiv, hm]; rfl
      have hr : (n.tmod 10000).natAbs = m % 10000 := by rw [Int.natAbs_tmod, hm]; rfl
      have ho' : Ints (out.snoc (.int (maxI (n.tmod 10000) (0-n.tmod 10000)))) (l ++ [m % 10000]) := by
        rw [show 0 - n.tmod 10000 = -n.tmod 10000 from by omega, maxI_abs, hr]; exact ho.snoc _
      obtain ⟨r, r1, r2⟩ := ih (m / 10000) (by omega) (n.tdiv 10000) x _ _ hq (by omega) (by omega) ho' (by simp; omega)
      refine ⟨r, ?_, Comes.step progOk ref01_digits.p1 [] ?_ r2⟩
      · rw [dg_pos hmp]; simpa using r1
      · have := ho.len
        simp [EvOk, E.b, E.i, E.v, Env.ext, Sub.ev, ltB_iff, leB_iff, eqB_iff, eqB_not, ltB_not, leB_not]
        omega
theorem digits_spec (n : Int) (h1 : -9223372036854775808 ≤ n) (h2 : n ≤ 9223372036854775807) : ∃ r, Ints r (dg n.natAbs) ∧ Fn prog ref01_digits.f [.int n] r := by
  have hl : (dg n.natAbs).length ≤ 5 := dg_len (by unfold pw; omega)
  obtain ⟨r, r1, r2⟩ := digits_loop n.natAbs n (.int n) .nil [] rfl h1 h2 ints_nil (by simp; omega)
  refine ⟨r, r1, Fn.of (C := ref01_digits.K) ref01_digits.b ?_⟩
  exact Comes.step progOk ref01_digits.p0 [] trivial r2

theorem cut_loop : ∀ (n : Nat) (x a : V) (l : List Nat), l.length = n → Ints a l → Ok l → n ≤ 8796093021696 → ∃ r, Ints r (dg (val l)) ∧ Comes ref01_cut.K ref01_cut.f ref01_cut.s1 ⟨[], [], [x, a]⟩ r := by
  intro n
  induction n with
  | zero =>
    intro x a l hl ha ho hn
    have : l = [] := List.length_eq_zero_iff.1 hl
    subst this
    refine ⟨a, ha, Comes.last progOk ref01_cut.p3 [] ?_ ?_⟩
    · have := ha.len
      simp [EvOk, E.b, E.i, E.v, Env.ext, Sub.ev, ltB_iff, leB_iff, eqB_iff, eqB_not, ltB_not, leB_not]; omega
    · simp [EvOk, E.b, E.i, E.v, Env.ext, Sub.ev, ltB_iff, leB_iff, eqB_iff, eqB_not, ltB_not, leB_not]
  | succ n ih =>
    intro x a l hl ha ho hn
    have hlen := ha.len
    obtain ⟨k, d, rfl⟩ : ∃ k d, l = k ++ [d] := by
      have : l ≠ [] := by intro q; subst q; simp at hl
      exact ⟨l.dropLast, l.getLast this, (List.dropLast_concat_getLast this).symm⟩
    have hk : k.length = n := by simpa using hl
    have hg : (a.get (a.len - 1)).toI = d := by
      rw [hlen]
      have := ha.get (i := n) (d := d) (by simp [← hk])
      rw [← this]; congr 2; simp; omega
    have hok : Ok k := fun x hx => ho x (by simp [hx])
    by_cases h0 : d = 0
    · subst h0
      have hs : Ints (a.sub 0 (a.len - 1)) k := by
        have := ha.sub (i := 0) (j := n) (by omega) (by simp; omega)
        rw [List.take_left' hk] at this
        rw [hlen]
        simpa [hk] using this
      obtain ⟨r, r1, r2⟩ := ih x (a.sub 0 (a.len - 1)) k hk hs hok (by omega)
      refine ⟨r, ?_, Comes.step progOk ref01_cut.p1 [] ?_ r2⟩
      · rw [val_append]; simpa [val] using r1
      · simp [EvOk, E.b, E.i, E.v, Env.ext, Sub.ev, ltB_iff, leB_iff, eqB_iff, eqB_not, ltB_not, leB_not]; simp [hg]; simp at hlen; omega
    · refine ⟨a, ?_, Comes.last progOk ref01_cut.p2 [] ?_ ?_⟩
      · rw [dg_val _ ho (by simp [h0])]; exact ha
      · simp [EvOk, E.b, E.i, E.v, Env.ext, Sub.ev, ltB_iff, leB_iff, eqB_iff, eqB_not, ltB_not, leB_not]; simp [hg]; simp at hlen; omega
      · simp [EvOk, E.b, E.i, E.v, Env.ext, Sub.ev, ltB_iff, leB_iff, eqB_iff, eqB_not, ltB_not, leB_not]
theorem cut_spec {a : V} {l : List Nat} (ha : Ints a l) (ho : Ok l) (hn : l.length ≤ 8796093021696) : ∃ r, Ints r (dg (val l)) ∧ Fn prog ref01_cut.f [a] r := by
  obtain ⟨r, r1, r2⟩ := cut_loop l.length a a l rfl ha ho hn
  refine ⟨r, r1, Fn.of (C := ref01_cut.K) ref01_cut.b ?_⟩
  exact Comes.step progOk ref01_cut.p0 [] trivial r2

def cmpN (m n : Nat) : Int := if m < n then -1 else if n < m then 1 else 0
theorem compare_loop {a b : V} {l k : List Nat} (ha : Ints a l) (hb : Ints b k) (hl : Ok l) (hk : Ok k) (he : l.length = k.length) (hn : l.length ≤ 8796093021696) : ∀ (j : Nat) (i : Int), i = (j : Int) - 1 → j ≤ l.length → Comes ref01_compare.K ref01_compare.f ref01_compare.s1 ⟨[i], [], [a, b]⟩ (.int (cmpN (val (l.take j)) (val (k.take j)))) := by
  have la := ha.len
  have lb := hb.len
  intro j
  induction j with
  | zero =>
    intro i hi hj
    subst hi
    refine Comes.last progOk ref01_compare.p6 [] ?_ ?_
    · simp [EvOk, E.b, E.i, E.v, Env.ext, Sub.ev, ltB_iff, leB_iff, eqB_iff, eqB_not, ltB_not, leB_not]
    · simp [EvOk, E.b, E.i, E.v, Env.ext, Sub.ev, ltB_iff, leB_iff, eqB_iff, eqB_not, ltB_not, leB_not]; simp [cmpN, val]
  | succ j ih =>
    intro i hi hj
    obtain ⟨d, hd⟩ : ∃ d, l[j]? = some d := ⟨l[j], List.getElem?_eq_getElem (by omega)⟩
    obtain ⟨e, hee⟩ : ∃ d, k[j]? = some d := ⟨k[j], List.getElem?_eq_getElem (by omega)⟩
    have hi' : i = (j : Int) := by omega
    subst hi'
    have ga := ha.get hd
    have gb := hb.get hee
    have v1 := val_take_succ l j d hd
    have v2 := val_take_succ k j e hee
    have b1 : val (l.take j) < pw j := by
      have := val_lt (l := l.take j) (fun x hx => hl x (List.mem_of_mem_take hx))
      rwa [List.length_take, Nat.min_eq_left (by omega)] at this
    have b2 : val (k.take j) < pw j := by
      have := val_lt (l := k.take j) (fun x hx => hk x (List.mem_of_mem_take hx))
      rwa [List.length_take, Nat.min_eq_left (by omega)] at this
    rcases Nat.lt_trichotomy d e with q | q | q
    · have hv : val (l.take (j + 1)) < val (k.take (j + 1)) := by
        have := Nat.mul_le_mul_left (pw j) (show d + 1 ≤ e from q)
        rw [Nat.mul_add] at this; omega
      refine Comes.last progOk ref01_compare.p3 [] ?_ ?_
      · simp [EvOk, E.b, E.i, E.v, Env.ext, Sub.ev, ltB_iff, leB_iff, eqB_iff, eqB_not, ltB_not, leB_not]; rw [ga, gb]; omega
      · simp [EvOk, E.b, E.i, E.v, Env.ext, Sub.ev, ltB_iff, leB_iff, eqB_iff, eqB_not, ltB_not, leB_not]; simp [cmpN, hv]
    · subst q
      have hv : cmpN (val (l.take (j + 1))) (val (k.take (j + 1))) = cmpN (val (l.take j)) (val (k.take j)) := by
        unfold cmpN
        rw [v1, v2]
        split <;> split <;> (try split) <;> (try split) <;> omega
      rw [hv]
      refine Comes.step progOk ref01_compare.p5 [] ?_ (ih ((j : Int) - 1) rfl (by omega))
      simp [EvOk, E.b, E.i, E.v, Env.ext, Sub.ev, ltB_iff, leB_iff, eqB_iff, eqB_not, ltB_not, leB_not]; rw [ga, gb]; omega
    · have hv : val (k.take (j + 1)) < val (l.take (j + 1)) := by
        have := Nat.mul_le_mul_left (pw j) (show e + 1 ≤ d from q)
        rw [Nat.mul_add] at this; omega
      refine Comes.last progOk ref01_compare.p4 [] ?_ ?_
      · simp [EvOk, E.b, E.i, E.v, Env.ext, Sub.ev, ltB_iff, leB_iff, eqB_iff, eqB_not, ltB_not, leB_not]; rw [ga, gb]; omega
      · simp [EvOk, E.b, E.i, E.v, Env.ext, Sub.ev, ltB_iff, leB_iff, eqB_iff, eqB_not, ltB_not, leB_not]; simp [cmpN, hv]; omega
theorem dg_len_lt {m n : Nat} (h : (dg m).length < (dg n).length) : m < n := by
  have h1 := (dg_lt n (dg m).length).1 h
  have h2 := val_lt (ok_dg m)
  rw [val_dg] at h2
  have := Nat.div_mul_le_self n (pw (dg m).length)
  have h3 : 1 ≤ n / pw (dg m).length := Nat.pos_of_ne_zero h1
  have := Nat.mul_le_mul_right (pw (dg m).length) h3
  omega
theorem compare_spec {a b : V} {m n : Nat} (ha : Ints a (dg m)) (hb : Ints b (dg n)) (hm : (dg m).length ≤ 8796093021696) : Fn prog ref01_compare.f [a, b] (.int (cmpN m n)) := by
  have la := ha.len
  have lb := hb.len
  refine Fn.of (C := ref01_compare.K) ref01_compare.b ?_
  rcases Nat.lt_trichotomy (dg m).length (dg n).length with q | q | q
  · have := dg_len_lt q
    refine Comes.last progOk ref01_compare.p0 [] ?_ ?_
    · simp [EvOk, E.b, E.i, E.v, Env.ext, Sub.ev, ltB_iff, leB_iff, eqB_iff, eqB_not, ltB_not, leB_not]; omega
    · simp [EvOk, E.b, E.i, E.v, Env.ext, Sub.ev, ltB_iff, leB_iff, eqB_iff, eqB_not, ltB_not, leB_not]; simp [cmpN, this]
  · have k := compare_loop ha hb (ok_dg m) (ok_dg n) q hm (dg m).length ((dg m).length - 1) rfl (Nat.le_refl _)
    rw [List.take_length, q, List.take_length, val_dg, val_dg, ← q, ← la] at k
    refine Comes.step progOk ref01_compare.p2 [] ?_ k
    simp [EvOk, E.b, E.i, E.v, Env.ext, Sub.ev, ltB_iff, leB_iff, eqB_iff, eqB_not, ltB_not, leB_not]; omega
  · have := dg_len_lt q
    refine Comes.last progOk ref01_compare.p1 [] ?_ ?_
    · simp [EvOk, E.b, E.i, E.v, Env.ext, Sub.ev, ltB_iff, leB_iff, eqB_iff, eqB_not, ltB_not, leB_not]; omega
    · simp [EvOk, E.b, E.i, E.v, Env.ext, Sub.ev, ltB_iff, leB_iff, eqB_iff, eqB_not, ltB_not, leB_not]; simp [cmpN, this]; omega
end X
namespace X
open Go Go.Abs Go.Sym
set_option linter.unusedVariables false
set_option linter.unusedSimpArgs false

theorem minus_loop {a b : V} {m n : Nat} (ha : Ints a (dg m)) (hb : Ints b (dg n)) (hmn : n ≤ m) (hl : (dg m).length ≤ 1000000000) : ∀ (g i c : Nat) (i' c' : Int) (x y out : V) (l : List Nat), g + i = (dg m).length → i' = i → c' = c → c ≤ 1 → Ints out l → Ok l → l.length = i → val l + pw i * (m / pw i) + n = m + pw i * (n / pw i + c) → ∃ r, Ints r (dg (m - n)) ∧ Comes ref01_minus.K ref01_minus.f ref01_minus.s1 ⟨[c', i'], [], [a, b, out]⟩ r := by
  have la := ha.len
  have lb := hb.len
  intro g
  induction g with
  | zero =>
    intro i c i' c' x y out l hg hi hc hc1 hout hok hli hv
    subst hi hc
    have hp : m / pw i = 0 := by
      have := dg_lt m i
      exact Decidable.byContradiction fun q => by have := this.2 q; omega
    have hq : n / pw i = 0 := by
      have := Nat.div_le_div_right (c := pw i) hmn
      rw [hp] at this
      exact Nat.le_zero.1 this
    have hlt : val l < pw i := by rw [← hli]; exact val_lt hok
    rw [hp, hq] at hv
    have hc0 : c = 0 := by
      rcases (show c = 0 ∨ c = 1 by omega) with q | q
      · exact q
      · subst q; rw [Nat.mul_zero, Nat.zero_add, Nat.mul_one] at hv; omega
    subst hc0
    simp only [Nat.mul_zero, Nat.add_zero] at hv
    have hv' : val l = m - n := by omega
    obtain ⟨r, r1, r2⟩ := cut_spec hout hok (by omega)
    rw [hv'] at r1
    refine ⟨r, r1, Comes.last progOk ref01_minus.p5 [r] ?_ ?_⟩
    · simp [EvOk, E.b, E.i, E.v, Env.ext, Sub.ev, ltB_iff, leB_iff, eqB_iff, eqB_not, ltB_not, leB_not]; exact ⟨by omega, r2⟩
    · simp [EvOk, E.b, E.i, E.v, Env.ext, Sub.ev, ltB_iff, leB_iff, eqB_iff, eqB_not, ltB_not, leB_not]
  | succ g ih =>
    intro i c i' c' x y out l hg hi hc hc1 hout hok hli hv
    subst hi hc
    have hp : m / pw i ≠ 0 := (dg_lt m i).1 (by omega)
    have gm := dg_get m i
    rw [if_neg hp] at gm
    have ga := ha.get gm
    have hout' := hout.len
    have hP := Nat.div_add_mod (m / pw i) 10000
    have hQ := Nat.div_add_mod (n / pw i) 10000
    rw [← div_pw, pw_succ] at hP hQ
    have lm : i < (dg m).length := by omega
    have key : ∀ (d c2 : Nat), d + c + n / pw i % 10000 = m / pw i % 10000 + 10000 * c2 → val (l ++ [d]) + pw (i + 1) * (m / pw (i + 1)) + n = m + pw (i + 1) * (n / pw (i + 1) + c2) := by
      intro d c2 hd
      rw [val_append, hli]
      simp only [val]
      rw [← hP, ← hQ] at hv
      rw [pw_succ]
      generalize m / pw i % 10000 = p at *
      generalize n / pw i % 10000 = q at *
      have hd' := congrArg (pw i * ·) hd
      simp only [Nat.mul_add, Nat.mul_zero, Nat.add_zero, Nat.mul_assoc] at hd' hv ⊢
      generalize m / (10000 * pw i) = M at *
      generalize n / (10000 * pw i) = N at *
      have e1 : pw i * (10000 * M) = 10000 * (pw i * M) := Nat.mul_left_comm _ _ _
      have e2 : pw i * (10000 * N) = 10000 * (pw i * N) := Nat.mul_left_comm _ _ _
      have e3 : pw i * (10000 * c2) = 10000 * (pw i * c2) := Nat.mul_left_comm _ _ _
      omega
    have hp1 : m / pw i % 10000 < 10000 := Nat.mod_lt _ (by omega)
    have hq1 : n / pw i % 10000 < 10000 := Nat.mod_lt _ (by omega)
    have snoc : ∀ (d : Nat) (z : Int), z = d → Ints (out.snoc (.int z)) (l ++ [d]) := by intro d z e; subst e; exact hout.snoc d
    have okd : ∀ (d : Nat), d < 10000 → Ok (l ++ [d]) := fun d h => hok.app (by intro z hz; simp at hz; omega)
    have li1 : ∀ d : Nat, (l ++ [d]).length = i + 1 := by intro d; simp [hli]
    by_cases hb0 : n / pw i = 0
    · have hbl : (dg n).length ≤ i := Nat.le_of_not_lt fun q => (dg_lt n i).1 q hb0
      have hq0 : n / pw i % 10000 = 0 := by rw [hb0]
      rw [hq0] at key hq1
      generalize m / pw i % 10000 = p at *
      by_cases hd : (p : Int) - c < 0
      · obtain ⟨r, r1, r2⟩ := ih (i + 1) 1 ((i : Int) + 1) 1 x y (out.snoc (.int ((a.get i).toI - c + 10000))) (l ++ [p + 10000 - c]) (by omega) (by omega) rfl (by omega) (snoc _ _ (by rw [ga]; omega)) (okd _ (by omega)) (li1 _) (key _ 1 (by omega))
        refine ⟨r, r1, Comes.step progOk ref01_minus.p3 [] ?_ r2⟩
        simp [EvOk, E.b, E.i, E.v, Env.ext, Sub.ev, ltB_iff, leB_iff, eqB_iff, eqB_not, ltB_not, leB_not]; rw [ga]; omega
      · obtain ⟨r, r1, r2⟩ := ih (i + 1) 0 ((i : Int) + 1) 0 x y (out.snoc (.int ((a.get i).toI - c))) (l ++ [p - c]) (by omega) (by omega) rfl (by omega) (snoc _ _ (by rw [ga]; omega)) (okd _ (by omega)) (li1 _) (key _ 0 (by omega))
        refine ⟨r, r1, Comes.step progOk ref01_minus.p4 [] ?_ r2⟩
        simp [EvOk, E.b, E.i, E.v, Env.ext, Sub.ev, ltB_iff, leB_iff, eqB_iff, eqB_not, ltB_not, leB_not]; rw [ga]; omega
    · have hbl : i < (dg n).length := (dg_lt n i).2 hb0
      have gn := dg_get n i
      rw [if_neg hb0] at gn
      have gb := hb.get gn
      generalize m / pw i % 10000 = p at *
      generalize n / pw i % 10000 = q at *
      by_cases hd : (p : Int) - c - q < 0
      · obtain ⟨r, r1, r2⟩ := ih (i + 1) 1 ((i : Int) + 1) 1 x y (out.snoc (.int ((a.get i).toI - c - (b.get i).toI + 10000))) (l ++ [p + 10000 - c - q]) (by omega) (by omega) rfl (by omega) (snoc _ _ (by rw [ga, gb]; omega)) (okd _ (by omega)) (li1 _) (key _ 1 (by omega))
        refine ⟨r, r1, Comes.step progOk ref01_minus.p1 [] ?_ r2⟩
        simp [EvOk, E.b, E.i, E.v, Env.ext, Sub.ev, ltB_iff, leB_iff, eqB_iff, eqB_not, ltB_not, leB_not]; rw [ga, gb]; omega
      · obtain ⟨r, r1, r2⟩ := ih (i + 1) 0 ((i : Int) + 1) 0 x y (out.snoc (.int ((a.get i).toI - c - (b.get i).toI))) (l ++ [p - c - q]) (by omega) (by omega) rfl (by omega) (snoc _ _ (by rw [ga, gb]; omega)) (okd _ (by omega)) (li1 _) (key _ 0 (by omega))
        refine ⟨r, r1, Comes.step progOk ref01_minus.p2 [] ?_ r2⟩
        simp [EvOk, E.b, E.i, E.v, Env.ext, Sub.ev, ltB_iff, leB_iff, eqB_iff, eqB_not, ltB_not, leB_not]; rw [ga, gb]; omega
theorem minus_spec {a b : V} {m n : Nat} (ha : Ints a (dg m)) (hb : Ints b (dg n)) (hmn : n ≤ m) (hl : (dg m).length ≤ 1000000000) : ∃ r, Ints r (dg (m - n)) ∧ Fn prog ref01_minus.f [a, b] r := by
  obtain ⟨r, r1, r2⟩ := minus_loop ha hb hmn hl (dg m).length 0 0 0 0 .nil .nil .nil [] (by omega) rfl rfl (by omega) ints_nil (by intro x hx; simp at hx) rfl (by simp [val, pw_zero])
  refine ⟨r, r1, Fn.of (C := ref01_minus.K) ref01_minus.b ?_⟩
  exact Comes.step progOk ref01_minus.p0 [] trivial r2
end X
namespace X
open Go Go.Abs Go.Sym
set_option linter.unusedVariables false
set_option linter.unusedSimpArgs false
theorem tdivN (n : Nat) (z : Int) (h : z = n) : z.tdiv 10000 = ((n / 10000 : Nat) : Int) := by subst h; rw [Int.tdiv_eq_ediv_of_nonneg (by omega)]; rfl
theorem tmodN (n : Nat) (z : Int) (h : z = n) : z.tmod 10000 = ((n % 10000 : Nat) : Int) := by subst h; rw [Int.tmod_eq_emod_of_nonneg (by omega)]; rfl

theorem times_inner {a b : V} {l k : List Nat} {i d : Nat} (ha : Ints a l) (hb : Ints b k) (hk : ∀ x ∈ k, x ≤ 10000) (hvk : val k ≤ pw k.length) (hd : l[i]? = some d) (hd1 : d < 10000) (hvl : val (l.take (i + 1)) < pw (i + 1)) (hn : l.length + k.length ≤ 1000000000) {R : V → Prop}
    (H : ∀ (out : V) (o : List Nat), Ints out o → Ok o → o.length = l.length + k.length → val o = val (l.take (i + 1)) * val k → ∃ r, R r ∧ Comes ref01_times.K ref01_times.f ref01_times.s1 ⟨[(i : Int) + 1], [], [a, b, out]⟩ r) :
    ∀ (t j c : Nat) (j' c' : Int) (out : V) (o : List Nat), t + (i + j) = l.length + k.length → j' = j → c' = c → c ≤ 10000 → Ints out o → Ok o → o.length = l.length + k.length → val o + c * pw (i + j) = val (l.take i) * val k + d * (val (k.take j) * pw i) → ∃ r, R r ∧ Comes ref01_times.K ref01_times.f ref01_times.s2 ⟨[c', j', (i : Int)], [], [a, b, out]⟩ r := by
  have la := ha.len
  have lb := hb.len
  have hi : i < l.length := (List.getElem?_eq_some_iff.1 hd).1
  have ga := ha.get hd
  have htk := val_take_succ l i d hd
  have hprod : ∀ j, k.length ≤ j → val (l.take i) * val k + d * (val (k.take j) * pw i) = val (l.take (i + 1)) * val k := by
    intro j hj
    rw [List.take_of_length_le hj, htk, Nat.add_mul]
    congr 1
    ac_rfl
  have hbound : val (l.take (i + 1)) * val k < pw (i + 1 + k.length) := by
    rw [pw_add]
    exact Nat.lt_of_le_of_lt (Nat.mul_le_mul_left _ hvk) (Nat.mul_lt_mul_of_pos_right hvl (pw_pos _))
  intro t
  induction t with
  | zero =>
    intro j c j' c' out o ht hj hc hc1 hout hok hol hv
    subst hj hc
    have hjl : k.length ≤ j := by omega
    have hc0 : c = 0 := by
      rcases Nat.eq_zero_or_pos c with q | q
      · exact q
      · exfalso
        rw [hprod j hjl] at hv
        have h1 : pw (i + 1 + k.length) ≤ pw (i + j) := Nat.pow_le_pow_right (by omega) (by omega)
        have h2 : pw (i + j) ≤ c * pw (i + j) := Nat.le_mul_of_pos_left _ q
        omega
    subst hc0
    obtain ⟨r, r1, r2⟩ := H out o hout hok hol (by rw [← hprod j hjl, ← hv]; simp)
    refine ⟨r, r1, Comes.step progOk ref01_times.p7 [] ?_ r2⟩
    simp [EvOk, E.b, E.i, E.v, Env.ext, Sub.ev, ltB_iff, leB_iff, eqB_iff, eqB_not, ltB_not, leB_not]; omega
  | succ t ih =>
    intro j c j' c' out o ht hj hc hc1 hout hok hol hv
    subst hj hc
    have lo := hout.len
    have hij : i + j < o.length := by omega
    obtain ⟨e, he⟩ : ∃ e, o[i + j]? = some e := ⟨_, List.getElem?_eq_getElem hij⟩
    have he1 : e < 10000 := hok e (List.mem_of_getElem? he)
    have ge := hout.get he
    have setI : ∀ (x : Nat) (z : Int), z = x → Ints (out.set ((i : Int) + j) (.int z)) (o.set (i + j) x) := by
      intro x z e; subst e; have := hout.set (i + j) x; rwa [Int.natCast_add] at this
    have vs : ∀ x, val (o.set (i + j) x) + e * pw (i + j) = val o + x * pw (i + j) := val_set he
    by_cases hjk : j < k.length
    · obtain ⟨f, hf⟩ : ∃ f, k[j]? = some f := ⟨_, List.getElem?_eq_getElem hjk⟩
      have hf1 : f ≤ 10000 := hk f (List.mem_of_getElem? hf)
      have gb := hb.get hf
      have hdf : d * f ≤ 9999 * 10000 := Nat.mul_le_mul (by omega) hf1
      have hvt := val_take_succ k j f hf
      have num : (c : Int) + (out.get ((i : Int) + j)).toI + (a.get i).toI * (b.get j).toI = ((c + e + d * f : Nat) : Int) := by
        rw [ga, gb, ← Int.natCast_add, ge]; push_cast; rfl
      have e1 := Nat.div_add_mod (c + e + d * f) 10000
      obtain ⟨r, r1, r2⟩ := ih (j + 1) ((c + e + d * f) / 10000) ((j : Int) + 1) (((c : Int) + (out.get ((i : Int) + j)).toI + (a.get i).toI * (b.get j).toI).tdiv 10000) (out.set ((i : Int) + j) (.int (((c : Int) + (out.get ((i : Int) + j)).toI + (a.get i).toI * (b.get j).toI).tmod 10000))) (o.set (i + j) ((c + e + d * f) % 10000)) (by omega) (by omega) (tdivN _ _ num) (by omega) (setI _ _ (tmodN _ _ num)) (hok.set _ _ (by omega)) (by simp [hol]) (by
        have := vs ((c + e + d * f) % 10000)
        have e2 := congrArg (· * pw (i + j)) e1
        simp only [Nat.add_mul] at e2
        rw [hvt, show i + (j + 1) = (i + j) + 1 from rfl, pw_succ, Nat.mul_left_comm]
        rw [Nat.mul_assoc] at e2
        have e3 : d * ((val (k.take j) + pw j * f) * pw i) = d * (val (k.take j) * pw i) + d * f * pw (i + j) := by
          rw [Nat.add_mul, Nat.mul_add, pw_add, Nat.mul_assoc d f, Nat.mul_comm (pw j) f, Nat.mul_assoc f, Nat.mul_comm (pw j)]
        rw [e3]
        generalize (c + e + d * f) % 10000 = A at *
        generalize (c + e + d * f) / 10000 = A' at *
        generalize A' * pw (i + j) = A2 at *
        omega)
      refine ⟨r, r1, Comes.step progOk ref01_times.p3 [] ?_ r2⟩
      have n1 := tdivN _ _ num
      have ge' : (out.get ((i : Int) + j)).toI = e := by rw [← Int.natCast_add]; exact ge
      rw [ge', ga, gb] at n1
      simp [EvOk, E.b, E.i, E.v, Env.ext, Sub.ev, ltB_iff, leB_iff, eqB_iff, eqB_not, ltB_not, leB_not]
      rw [ge', ga, gb, n1]
      have : ((d : Int) * f) = ((d * f : Nat) : Int) := by push_cast; rfl
      rw [this]
      omega
    · have hjl : k.length ≤ j := by omega
      rcases Nat.eq_zero_or_pos c with q | q
      · subst q
        obtain ⟨r, r1, r2⟩ := H out o hout hok hol (by rw [← hprod j hjl, ← hv]; simp)
        refine ⟨r, r1, Comes.step progOk ref01_times.p7 [] ?_ r2⟩
        simp [EvOk, E.b, E.i, E.v, Env.ext, Sub.ev, ltB_iff, leB_iff, eqB_iff, eqB_not, ltB_not, leB_not]; omega
      · have num : (c : Int) + (out.get ((i : Int) + j)).toI = ((c + e : Nat) : Int) := by
          rw [← Int.natCast_add, ge]; push_cast; rfl
        have e1 := Nat.div_add_mod (c + e) 10000
        obtain ⟨r, r1, r2⟩ := ih (j + 1) ((c + e) / 10000) ((j : Int) + 1) (((c : Int) + (out.get ((i : Int) + j)).toI).tdiv 10000) (out.set ((i : Int) + j) (.int (((c : Int) + (out.get ((i : Int) + j)).toI).tmod 10000))) (o.set (i + j) ((c + e) % 10000)) (by omega) (by omega) (tdivN _ _ num) (by omega) (setI _ _ (tmodN _ _ num)) (hok.set _ _ (by omega)) (by simp [hol]) (by
          have := vs ((c + e) % 10000)
          have e2 := congrArg (· * pw (i + j)) e1
          simp only [Nat.add_mul] at e2
          rw [List.take_of_length_le (l := k) (i := j + 1) (by omega), show i + (j + 1) = (i + j) + 1 from rfl, pw_succ, Nat.mul_left_comm]
          rw [List.take_of_length_le (l := k) (i := j) (by omega)] at hv
          rw [Nat.mul_assoc] at e2
          generalize (c + e) % 10000 = A at *
          generalize (c + e) / 10000 = A' at *
          generalize A' * pw (i + j) = A2 at *
          omega)
        refine ⟨r, r1, Comes.step progOk ref01_times.p6 [] ?_ r2⟩
        have n1 := tdivN _ _ num
        have ge' : (out.get ((i : Int) + j)).toI = e := by rw [← Int.natCast_add]; exact ge
        rw [ge'] at n1
        simp [EvOk, E.b, E.i, E.v, Env.ext, Sub.ev, ltB_iff, leB_iff, eqB_iff, eqB_not, ltB_not, leB_not]
        rw [ge', n1]
        omega
theorem times_spec {a b : V} {l k : List Nat} (ha : Ints a l) (hb : Ints b k) (hl : Ok l) (hk : ∀ x ∈ k, x ≤ 10000) (hvk : val k ≤ pw k.length) (hn : l.length + k.length ≤ 1000000000) : ∃ r, Ints r (dg (val l * val k)) ∧ Fn prog ref01_times.f [a, b] r := by
  have la := ha.len
  have lb := hb.len
  have outer : ∀ (t i : Nat) (i' : Int) (out : V) (o : List Nat), t + i = l.length → i' = i → Ints out o → Ok o → o.length = l.length + k.length → val o = val (l.take i) * val k → ∃ r, Ints r (dg (val l * val k)) ∧ Comes ref01_times.K ref01_times.f ref01_times.s1 ⟨[i'], [], [a, b, out]⟩ r := by
    intro t
    induction t with
    | zero =>
      intro i i' out o ht hi hout hok hol hv
      subst hi
      obtain ⟨r, r1, r2⟩ := cut_spec hout hok (by omega)
      rw [hv, List.take_of_length_le (by omega)] at r1
      refine ⟨r, r1, Comes.last progOk ref01_times.p2 [r] ?_ ?_⟩
      · simp [EvOk, E.b, E.i, E.v, Env.ext, Sub.ev, ltB_iff, leB_iff, eqB_iff, eqB_not, ltB_not, leB_not]; exact ⟨by omega, r2⟩
      · simp [EvOk, E.b, E.i, E.v, Env.ext, Sub.ev, ltB_iff, leB_iff, eqB_iff, eqB_not, ltB_not, leB_not]
    | succ t ih =>
      intro i i' out o ht hi hout hok hol hv
      subst hi
      have hil : i < l.length := by omega
      obtain ⟨d, hd⟩ : ∃ e, l[i]? = some e := ⟨_, List.getElem?_eq_getElem hil⟩
      have hd1 : d < 10000 := hl d (List.mem_of_getElem? hd)
      have hvl : val (l.take (i + 1)) < pw (i + 1) := by
        have := val_lt (l := l.take (i + 1)) (fun x hx => hl x (List.mem_of_mem_take hx))
        rwa [List.length_take, Nat.min_eq_left (by omega)] at this
      obtain ⟨r, r1, r2⟩ := times_inner ha hb hk hvk hd hd1 hvl hn (R := fun r => Ints r (dg (val l * val k))) (fun out' o' h1 h2 h3 h4 => ih (i + 1) ((i : Int) + 1) out' o' (by omega) (by omega) h1 h2 h3 h4) (l.length + k.length - i) 0 0 0 0 out o (by omega) rfl rfl (by omega) hout hok hol (by simp [hv, val])
      refine ⟨r, r1, Comes.step progOk ref01_times.p1 [] ?_ r2⟩
      simp [EvOk, E.b, E.i, E.v, Env.ext, Sub.ev, ltB_iff, leB_iff, eqB_iff, eqB_not, ltB_not, leB_not]; omega
  obtain ⟨r, r1, r2⟩ := outer l.length 0 0 (V.rep (a.len + b.len) (.int 0)) (List.replicate (l.length + k.length) 0) (by omega) rfl (by rw [la, lb, ← Int.natCast_add]; exact Ints.rep _ 0) (by intro x hx; have := List.eq_of_mem_replicate hx; omega) (by simp) (by rw [val_rep]; simp [val])
  refine ⟨r, r1, Fn.of (C := ref01_times.K) ref01_times.b ?_⟩
  refine Comes.step progOk ref01_times.p0 [] ?_ r2
  simp [EvOk, E.b, E.i, E.v, Env.ext, Sub.ev, ltB_iff, leB_iff, eqB_iff, eqB_not, ltB_not, leB_not]; omega
end X
namespace X
open Go Go.Abs Go.Sym
set_option linter.unusedVariables false
set_option linter.unusedSimpArgs false

theorem quot_lo {R n E : Nat} (hE : 0 < E) (hn : 0 < n) : (R / E) / (n / E + 1) ≤ R / n := by
  rw [Nat.le_div_iff_mul_le hn]
  have h1 := Nat.div_mul_le_self (R / E) (n / E + 1)
  have h2 := Nat.div_mul_le_self R E
  have h3 : n ≤ (n / E + 1) * E := by
    have := Nat.div_add_mod n E
    have := Nat.mod_lt n hE
    rw [Nat.add_mul, Nat.one_mul, Nat.mul_comm (n / E)]; omega
  calc R / E / (n / E + 1) * n ≤ R / E / (n / E + 1) * ((n / E + 1) * E) := Nat.mul_le_mul_left _ h3
    _ = R / E / (n / E + 1) * (n / E + 1) * E := by rw [Nat.mul_assoc]
    _ ≤ R / E * E := Nat.mul_le_mul_right _ h1
    _ ≤ R := h2
theorem quot_hi {R n E : Nat} (hE : 0 < E) (hT : 0 < n / E) : R / n ≤ (R / E) / (n / E) := by
  rw [Nat.le_div_iff_mul_le hT, Nat.le_div_iff_mul_le hE, Nat.mul_assoc]
  calc R / n * (n / E * E) ≤ R / n * n := Nat.mul_le_mul_left _ (Nat.div_mul_le_self n E)
    _ ≤ R := Nat.div_mul_le_self R n
theorem quot_cap {R n E : Nat} (hE : 0 < E) (hR : R < n * 10000) (h : E = 1 ∨ 10000 ≤ n / E) : (R / E) / (n / E) ≤ 10000 := by
  rcases h with rfl | h
  · rw [Nat.div_one, Nat.div_one]
    rcases Nat.eq_zero_or_pos n with q | q
    · subst q; simp
    · have := (Nat.div_lt_iff_lt_mul q).2 (show R < 10000 * n by omega)
      omega
  · have h3 : n < (n / E + 1) * E := by
      have := Nat.div_add_mod n E
      have := Nat.mod_lt n hE
      rw [Nat.add_mul, Nat.one_mul, Nat.mul_comm (n / E)]; omega
    have h4 : R / E < (n / E + 1) * 10000 := by
      rw [Nat.div_lt_iff_lt_mul hE]
      calc R < n * 10000 := hR
        _ ≤ (n / E + 1) * E * 10000 := Nat.mul_le_mul_right _ (by omega)
        _ = (n / E + 1) * 10000 * E := by ac_rfl
    have h5 : R / E / (n / E) < 10001 := by
      rw [Nat.div_lt_iff_lt_mul (by omega)]
      generalize n / E = T at *
      omega
    omega

/-- The quotient's digit is found. -/
theorem divide_search {a b q0 q rest : V} {n R : Nat} (hn : 0 < n) (hb : Ints b (dg n)) (hr : Ints rest (dg R)) (hR : R < n * 10000) (hl : (dg n).length ≤ 100000000) {Q : V → Prop} (z : List Int) (hz : z.length = 7) (i : Int)
    (H : ∃ r, Q r ∧ Comes ref01_divide.K ref01_divide.f ref01_divide.s3 ⟨[((R / n : Nat) : Int), ((R / n : Nat) : Int)] ++ z ++ [i], [], [a, b, q0, q, rest]⟩ r) :
    ∀ (t low high : Nat) (low' high' : Int), t + low = high → low' = low → high' = high → low ≤ R / n → R / n ≤ high → high ≤ 10000 → ∃ r, Q r ∧ Comes ref01_divide.K ref01_divide.f ref01_divide.s3 ⟨[low', high'] ++ z ++ [i], [], [a, b, q0, q, rest]⟩ r := by
  obtain ⟨z0, z1, z2, z3, z4, z5, z6, rfl⟩ : ∃ z0 z1 z2 z3 z4 z5 z6, z = [z0, z1, z2, z3, z4, z5, z6] := by
    match z, hz with
    | [z0, z1, z2, z3, z4, z5, z6], _ => exact ⟨z0, z1, z2, z3, z4, z5, z6, rfl⟩
  intro t
  induction t using Nat.strongRecOn with
  | _ t ih =>
    intro low high low' high' ht h1 h2 h3 h4 h5
    subst h1 h2
    by_cases hlh : low = high
    · subst hlh
      have : R / n = low := by omega
      rw [this] at H
      exact H
    · have hlen1 : (dg (n * ((low + high + 1) / 2))).length ≤ 100000001 := by
        have h1 : n < pw (dg n).length := by have := val_lt (ok_dg n); rwa [val_dg] at this
        have h2 : n * ((low + high + 1) / 2) ≤ n * 10000 := Nat.mul_le_mul_left _ (by omega)
        have := dg_len (n := n * ((low + high + 1) / 2)) (k := (dg n).length + 1) (by rw [pw_succ]; omega)
        omega
      have hmid : ((low : Int) + high + 1).tdiv 2 = (((low + high + 1) / 2 : Nat) : Int) := by
        rw [Int.tdiv_eq_ediv_of_nonneg (by omega)]; omega
      generalize hm : (low + high + 1) / 2 = mid at *
      have hI : Ints ((V.list []).snoc (.int (((low : Int) + high + 1).tdiv 2))) [mid] := by rw [hmid]; exact ints_emp.snoc mid
      obtain ⟨r5, r51, r52⟩ := times_spec hb hI (ok_dg n) (by intro x hx; simp at hx; omega) (by simp [val, pw_succ, pw_zero]; omega) (by simp; omega)
      rw [val_dg] at r51
      simp only [val, Nat.mul_zero, Nat.add_zero] at r51
      have r6 := compare_spec r51 hr (by omega)
      by_cases hc : n * mid ≤ R
      · obtain ⟨r, r1, r2⟩ := ih (high - mid) (by omega) mid high (((low : Int) + high + 1).tdiv 2) high (by omega) hmid rfl (by rw [Nat.le_div_iff_mul_le hn, Nat.mul_comm]; exact hc) h4 h5
        refine ⟨r, r1, Comes.step progOk ref01_divide.p9 [r5, .int (cmpN (n * mid) R)] ?_ r2⟩
        simp [EvOk, E.b, E.i, E.v, Env.ext, Sub.ev, ltB_iff, leB_iff, eqB_iff, eqB_not, ltB_not, leB_not]
        refine ⟨by omega, by omega, by omega, by omega, r52, r6, ?_⟩
        show cmpN _ _ ≤ 0
        unfold cmpN; split <;> (try split) <;> omega
      · have hq : R / n < mid := by rw [Nat.div_lt_iff_lt_mul hn, Nat.mul_comm]; omega
        obtain ⟨r, r1, r2⟩ := ih (mid - 1 - low) (by omega) low (mid - 1) low (((low : Int) + high + 1).tdiv 2 - 1) (by omega) rfl (by omega) h3 (by omega) (by omega)
        refine ⟨r, r1, Comes.step progOk ref01_divide.p10 [r5, .int (cmpN (n * mid) R)] ?_ r2⟩
        simp [EvOk, E.b, E.i, E.v, Env.ext, Sub.ev, ltB_iff, leB_iff, eqB_iff, eqB_not, ltB_not, leB_not]
        refine ⟨by omega, by omega, by omega, by omega, r52, r6, ?_, by omega⟩
        show 0 < cmpN _ _
        unfold cmpN; split <;> (try split) <;> omega

/-- The first digits. -/
theorem divide_first {a b q0 q rest : V} {n R N : Nat} (hN : N + 1 = (dg n).length) (hb : Ints b (dg n)) (hr : Ints rest (dg R)) (hR : R < n * 10000) (hl : (dg n).length ≤ 100000000) {Q : V → Prop} (i : Int)
    (H : ∃ r, Q r ∧ Comes ref01_divide.K ref01_divide.f ref01_divide.s2 ⟨[((n / pw (N - 1) : Nat) : Int), ((R / pw (N - 1) : Nat) : Int), ((N - 1 : Nat) : Int) - 1, i], [], [a, b, q0, q, rest]⟩ r) :
    ∀ (t j : Nat) (top first k : Int), t + (N - 1) = j → j ≤ N + 2 → top = ((n / pw j : Nat) : Int) → first = ((R / pw j : Nat) : Int) → k = (j : Int) - 1 → ∃ r, Q r ∧ Comes ref01_divide.K ref01_divide.f ref01_divide.s2 ⟨[top, first, k, i], [], [a, b, q0, q, rest]⟩ r := by
  have lb := hb.len
  have lr := hr.len
  have hnl : n < pw (N + 1) := by have := val_lt (ok_dg n); rwa [val_dg, ← hN] at this
  intro t
  induction t with
  | zero =>
    intro j top first k ht hj h1 h2 h3
    rw [Nat.zero_add] at ht
    subst ht h1 h2 h3
    exact H
  | succ t ih =>
    intro j top first k ht hj h1 h2 h3
    obtain ⟨g, rfl⟩ : ∃ g, j = g + 1 := ⟨j - 1, by omega⟩
    subst h1 h2 h3
    have hk : ((g + 1 : Nat) : Int) - 1 = g := by omega
    rw [hk]
    have dn := div_pw n g
    have dR := div_pw R g
    have an := Nat.div_add_mod (n / pw g) 10000
    have aR := Nat.div_add_mod (R / pw g) 10000
    rw [← dn] at an
    rw [← dR] at aR
    have hpN : pw N ≤ pw (g + 1) := Nat.pow_le_pow_right (by omega) (by omega)
    have hpS := pw_succ N
    have bigR : R / pw (g + 1) < 1000000000000 := by
      rw [Nat.div_lt_iff_lt_mul (pw_pos _)]
      omega
    have bign : n / pw (g + 1) < 1000000000000 := by
      rw [Nat.div_lt_iff_lt_mul (pw_pos _)]
      omega
    have mx : maxI 0 ((b.len : Int) - 1 - 1) ≤ g := by unfold maxI; split <;> omega
    have hmx : max (0 : Int) 0 = 0 := rfl
    have hR1 : R / pw g % 10000 < 10000 := Nat.mod_lt _ (by omega)
    have hn1 : n / pw g % 10000 < 10000 := Nat.mod_lt _ (by omega)
    by_cases hgr : g < (dg R).length
    · have g1 := dg_get R g
      rw [if_neg ((dg_lt R g).1 hgr)] at g1
      have gr := hr.get g1
      by_cases hgn : g < (dg n).length
      · have g2 := dg_get n g
        rw [if_neg ((dg_lt n g).1 hgn)] at g2
        have gn := hb.get g2
        obtain ⟨r, r1, r2⟩ := ih g (((n / pw (g + 1) : Nat) : Int) * 10000 + (b.get g).toI) (((R / pw (g + 1) : Nat) : Int) * 10000 + (rest.get g).toI) ((g : Int) - 1) (by omega) (by omega) (by rw [gn]; omega) (by rw [gr]; omega) rfl
        refine ⟨r, r1, Comes.step progOk ref01_divide.p4 [] ?_ r2⟩
        simp only [EvOk, E.b, E.i, E.v, Env.ext, List.getD_cons_zero, List.getD_cons_succ, List.append_nil, ltB_iff, leB_iff, Bool.and_eq_true, Bool.not_eq_true', ltB_not, leB_not, and_true, gn, gr]
        omega
      · have z1 : n / pw g = 0 := Decidable.byContradiction fun q => hgn ((dg_lt n g).2 q)
        obtain ⟨r, r1, r2⟩ := ih g (((n / pw (g + 1) : Nat) : Int)) (((R / pw (g + 1) : Nat) : Int) * 10000 + (rest.get g).toI) ((g : Int) - 1) (by omega) (by omega) (by rw [dn, z1]) (by rw [gr]; omega) rfl
        refine ⟨r, r1, Comes.step progOk ref01_divide.p5 [] ?_ r2⟩
        simp only [EvOk, E.b, E.i, E.v, Env.ext, List.getD_cons_zero, List.getD_cons_succ, List.append_nil, ltB_iff, leB_iff, Bool.and_eq_true, Bool.not_eq_true', ltB_not, leB_not, and_true, gr]
        omega
    · have z0 : R / pw g = 0 := Decidable.byContradiction fun q => hgr ((dg_lt R g).2 q)
      have z0' : R / pw (g + 1) = 0 := by rw [dR, z0]
      by_cases hgn : g < (dg n).length
      · have g2 := dg_get n g
        rw [if_neg ((dg_lt n g).1 hgn)] at g2
        have gn := hb.get g2
        obtain ⟨r, r1, r2⟩ := ih g (((n / pw (g + 1) : Nat) : Int) * 10000 + (b.get g).toI) (((R / pw (g + 1) : Nat) : Int) * 10000) ((g : Int) - 1) (by omega) (by omega) (by rw [gn]; omega) (by omega) rfl
        refine ⟨r, r1, Comes.step progOk ref01_divide.p6 [] ?_ r2⟩
        simp only [EvOk, E.b, E.i, E.v, Env.ext, List.getD_cons_zero, List.getD_cons_succ, List.append_nil, ltB_iff, leB_iff, Bool.and_eq_true, Bool.not_eq_true', ltB_not, leB_not, and_true, gn]
        omega
      · have z1 : n / pw g = 0 := Decidable.byContradiction fun q => hgn ((dg_lt n g).2 q)
        obtain ⟨r, r1, r2⟩ := ih g (((n / pw (g + 1) : Nat) : Int)) (((R / pw (g + 1) : Nat) : Int) * 10000) ((g : Int) - 1) (by omega) (by omega) (by rw [dn, z1]) (by omega) rfl
        refine ⟨r, r1, Comes.step progOk ref01_divide.p7 [] ?_ r2⟩
        simp only [EvOk, E.b, E.i, E.v, Env.ext, List.getD_cons_zero, List.getD_cons_succ, List.append_nil, ltB_iff, leB_iff, Bool.and_eq_true, Bool.not_eq_true', ltB_not, leB_not, and_true]
        omega
end X
namespace X
open Go Go.Abs Go.Sym
set_option linter.unusedVariables false
set_option linter.unusedSimpArgs false

theorem rep_get {n i : Nat} (h : i < n) : (List.replicate n 0)[i]? = some 0 := by simp [h]
theorem divide_spec {a b : V} {m n : Nat} (ha : Ints a (dg m)) (hb : Ints b (dg n)) (hn : 0 < n) (lm : (dg m).length ≤ 50000000) (ln : (dg n).length ≤ 50000000) : ∃ x y, Ints x (dg (m / n)) ∧ Ints y (dg (m % n)) ∧ Fn prog ref01_divide.f [a, b] (.list [x, y]) := by
  have la := ha.len
  have lb := hb.len
  have hnl : n < pw (dg n).length := by have := val_lt (ok_dg n); rwa [val_dg] at this
  have hml : m < pw (dg m).length := by have := val_lt (ok_dg m); rwa [val_dg] at this
  have hnp : 0 < (dg n).length := (dg_lt n 0).2 (by rw [pw_zero]; simp; omega)
  obtain ⟨N, hN⟩ : ∃ N, N + 1 = (dg n).length := ⟨(dg n).length - 1, by omega⟩
  have hNp : pw N ≤ n := by
    have := (dg_lt n N).1 (by omega)
    have h1 : 1 ≤ n / pw N := Nat.pos_of_ne_zero this
    rwa [Nat.le_div_iff_mul_le (pw_pos _), Nat.one_mul] at h1
  by_cases hs : (dg m).length ≤ N
  · have hmn : m < n := by
      have : pw (dg m).length ≤ pw N := Nat.pow_le_pow_right (by omega) hs
      omega
    refine ⟨.nil, (V.list []).app a, ?_, ?_, Fn.of (C := ref01_divide.K) ref01_divide.b ?_⟩
    · rw [Nat.div_eq_of_lt hmn]; exact ints_nil
    · rw [Nat.mod_eq_of_lt hmn]; exact ints_emp.app ha
    · refine Comes.last progOk ref01_divide.p0 [] ?_ ?_
      · simp [EvOk, E.b, E.i, E.v, Env.ext, Sub.ev, ltB_iff, leB_iff, eqB_iff, eqB_not, ltB_not, leB_not]; omega
      · simp [EvOk, E.b, E.i, E.v, Env.ext, Sub.ev, ltB_iff, leB_iff, eqB_iff, eqB_not, ltB_not, leB_not]; simp [V.snoc, V.els]
  · have outer : ∀ (j : Nat) (i' : Int) (q0 q rest : V) (l : List Nat), j ≤ (dg m).length - N → i' = (j : Int) - 1 → Ints rest (dg (m / pw j % n)) → Ints q l → Ok l → l.length = (dg m).length - N → (∀ t, t < j → l[t]? = some 0) → val l = pw j * (m / pw j / n) → ∃ r, (∃ x y, r = V.list [x, y] ∧ Ints x (dg (m / n)) ∧ Ints y (dg (m % n))) ∧ Comes ref01_divide.K ref01_divide.f ref01_divide.s1 ⟨[i'], [], [a, b, q, rest]⟩ r := by
      intro j
      induction j with
      | zero =>
        intro i' q0 q rest l hj hi hr hq hok hl hz hv
        subst hi
        rw [pw_zero, Nat.div_one] at hr
        rw [pw_zero, Nat.div_one, Nat.one_mul] at hv
        obtain ⟨r, r1, r2⟩ := cut_spec hq hok (by omega)
        rw [hv] at r1
        refine ⟨.list [r, rest], ⟨r, rest, rfl, r1, hr⟩, Comes.last progOk ref01_divide.p3 [r] ?_ ?_⟩
        · simp [EvOk, E.b, E.i, E.v, Env.ext, Sub.ev, ltB_iff, leB_iff, eqB_iff, eqB_not, ltB_not, leB_not]; exact r2
        · simp [EvOk, E.b, E.i, E.v, Env.ext, Sub.ev, ltB_iff, leB_iff, eqB_iff, eqB_not, ltB_not, leB_not]; simp [V.snoc, V.els]
      | succ i ih =>
        intro i' q0 q rest l hj hi hr hq hok hl hz hv
        have hi' : i' = (i : Int) := by omega
        subst hi'
        have lr := hr.len
        have lq := hq.len
        have him : i < (dg m).length := by omega
        have g1 := dg_get m i
        rw [if_neg ((dg_lt m i).1 him)] at g1
        have ga := ha.get g1
        have dm := div_pw m i
        have am := Nat.div_add_mod (m / pw i) 10000
        rw [← dm] at am
        have hd1 : m / pw i % 10000 < 10000 := Nat.mod_lt _ (by omega)
        generalize hD : m / pw i % 10000 = D at *
        generalize hM1 : m / pw (i + 1) = M1 at *
        have hrn : M1 % n < n := Nat.mod_lt _ hn
        generalize hRR : D + 10000 * (M1 % n) = R at *
        have hR : R < n * 10000 := by omega
        have hMR : m / pw i = n * (10000 * (M1 / n)) + R := by
          have := Nat.div_add_mod M1 n
          rw [← am, ← hRR, Nat.mul_left_comm]
          omega
        have hmod : m / pw i % n = R % n := by rw [hMR, Nat.mul_add_mod]
        have hdiv : m / pw i / n = 10000 * (M1 / n) + R / n := by rw [hMR, Nat.mul_add_div hn]
        have hlr : (dg (M1 % n)).length ≤ (dg n).length := dg_len (by omega)
        have hlR : (dg R).length ≤ (dg n).length + 1 := dg_len (by rw [pw_succ]; omega)
        -- the rest with the next digit
        have I1 : Ints (((V.list []).snoc (.int (a.get i).toI)).app rest) ([D] ++ dg (M1 % n)) := by
          rw [ga]; exact (ints_emp.snoc D).app hr
        obtain ⟨r4, r41, r42⟩ := cut_spec I1 (Ok.app (by intro x hx; simp at hx; omega) (ok_dg _)) (by simp; omega)
        have hv4 : val ([D] ++ dg (M1 % n)) = R := by simp [val, val_dg, hRR]
        rw [hv4] at r41
        -- the digit
        have hE := pw_pos (N - 1)
        have hT : 0 < n / pw (N - 1) := by
          have : pw (N - 1) ≤ n := Nat.le_trans (Nat.pow_le_pow_right (by omega) (by omega)) hNp
          exact Nat.div_pos this hE
        have hcap := quot_cap hE hR (by
          rcases Nat.eq_zero_or_pos N with z | z
          · left; subst z; rfl
          · right
            rw [Nat.le_div_iff_mul_le hE, ← pw_succ, show N - 1 + 1 = N from by omega]; exact hNp)
        have hlo := quot_lo (R := R) hE hn
        have hhi := quot_hi (R := R) hE hT
        have hq9 : R / n < 10000 := by rw [Nat.div_lt_iff_lt_mul hn]; omega
        -- after the search
        have I2 : Ints ((V.list []).snoc (.int ((R / n : Nat) : Int))) [R / n] := ints_emp.snoc _
        obtain ⟨r5, r51, r52⟩ := cut_spec I2 (by intro x hx; simp at hx; omega) (by simp)
        simp only [val, Nat.mul_zero, Nat.add_zero] at r51
        have hq1 : (dg (R / n)).length ≤ 1 := dg_len (by rw [pw_succ, pw_zero]; omega)
        obtain ⟨r6, r61, r62⟩ := times_spec hb r51 (ok_dg _) (by intro x hx; have := ok_dg _ x hx; omega) (by have := val_lt (ok_dg (R / n)); omega) (by omega)
        rw [val_dg, val_dg] at r61
        obtain ⟨r7, r71, r72⟩ := minus_spec r41 r61 (Nat.mul_div_le R n) (by omega)
        have hsub : R - n * (R / n) = m / pw i % n := by
          rw [hmod]; have := Nat.div_add_mod R n; omega
        rw [hsub] at r71
        have hset : l[i]? = some 0 := hz i (by omega)
        have vs := val_set hset (R / n)
        obtain ⟨r, hr1, hr2⟩ := ih ((i : Int) - 1) q (q.set (i : Int) (.int ((R / n : Nat) : Int))) r7 (l.set i (R / n)) (by omega) rfl r71 (hq.set _ _) (hok.set _ _ hq9) (by simp [hl]) (by
            intro t ht
            rw [List.getElem?_set_ne (by omega)]; exact hz t (by omega)) (by
            rw [hdiv]
            rw [pw_succ] at hv
            rw [Nat.mul_add]
            have : 10000 * pw i * (M1 / n) = pw i * (10000 * (M1 / n)) := by ac_rfl
            have e2 : R / n * pw i = pw i * (R / n) := Nat.mul_comm _ _
            omega)
        have S3 : ∀ z : List Int, z.length = 7 → ∃ r, (∃ x y, r = V.list [x, y] ∧ Ints x (dg (m / n)) ∧ Ints y (dg (m % n))) ∧ Comes ref01_divide.K ref01_divide.f ref01_divide.s3 ⟨[((R / n : Nat) : Int), ((R / n : Nat) : Int)] ++ z ++ [(i : Int)], [], [a, b, q, q, r4]⟩ r := by
          intro z hz7
          obtain ⟨z0, z1, z2, z3, z4, z5, z6, rfl⟩ : ∃ z0 z1 z2 z3 z4 z5 z6, z = [z0, z1, z2, z3, z4, z5, z6] := by
            match z, hz7 with
            | [z0, z1, z2, z3, z4, z5, z6], _ => exact ⟨z0, z1, z2, z3, z4, z5, z6, rfl⟩
          refine ⟨r, hr1, Comes.step progOk ref01_divide.p11 [r5, r6, r7] ?_ hr2⟩
          simp only [EvOk, E.b, E.i, E.v, Env.ext, List.cons_append, List.nil_append, List.getD_cons_zero, List.getD_cons_succ, List.append_nil, ltB_iff, leB_iff, eqB_not, Bool.and_eq_true, Bool.not_eq_true', ltB_not, leB_not, and_true]
          exact ⟨by omega, by omega, by omega, r52, r62, r72, by omega⟩
        have S3' : ∀ z : List Int, z.length = 7 → ∃ r, (∃ x y, r = V.list [x, y] ∧ Ints x (dg (m / n)) ∧ Ints y (dg (m % n))) ∧ Comes ref01_divide.K ref01_divide.f ref01_divide.s3 ⟨[((R / pw (N - 1) / (n / pw (N - 1) + 1) : Nat) : Int), ((R / pw (N - 1) / (n / pw (N - 1)) : Nat) : Int)] ++ z ++ [(i : Int)], [], [a, b, q, q, r4]⟩ r := fun z hz7 => divide_search hn hb r41 hR (by omega) z hz7 i (S3 z hz7) _ _ _ _ _ (Nat.sub_add_cancel (Nat.le_trans hlo hhi)) rfl rfl hlo hhi hcap
        have hTb : n / pw (N - 1) < 100000000 := by
          rw [Nat.div_lt_iff_lt_mul hE]
          rcases Nat.eq_zero_or_pos N with z | z
          · subst z; rw [← hN, pw_succ, pw_zero] at hnl; rw [pw_zero]; omega
          · have : pw (N + 1) = 10000 * (10000 * pw (N - 1)) := by rw [pw_succ, ← pw_succ (N - 1), show N - 1 + 1 = N from by omega]
            rw [← hN] at hnl; omega
        have hFb : R / pw (N - 1) < 1000000000000 := by
          rw [Nat.div_lt_iff_lt_mul hE]
          have : n < 100000000 * pw (N - 1) := by rwa [Nat.div_lt_iff_lt_mul hE] at hTb
          omega
        have tq : ∀ x y : Nat, ((x : Int)).tdiv (y : Int) = ((x / y : Nat) : Int) := by
          intro x y; rw [Int.tdiv_eq_ediv_of_nonneg (by omega)]; rfl
        have mx : maxI 0 ((b.len : Int) - 1 - 1) = ((N - 1 : Nat) : Int) := by unfold maxI; split <;> omega
        have S2 : ∃ r, (∃ x y, r = V.list [x, y] ∧ Ints x (dg (m / n)) ∧ Ints y (dg (m % n))) ∧ Comes ref01_divide.K ref01_divide.f ref01_divide.s2 ⟨[((n / pw (N - 1) : Nat) : Int), ((R / pw (N - 1) : Nat) : Int), ((N - 1 : Nat) : Int) - 1, (i : Int)], [], [a, b, q, q, r4]⟩ r := by
          generalize hTT : n / pw (N - 1) = T at *
          generalize hFF : R / pw (N - 1) = F at *
          have e1 := tq F (T + 1)
          have e2 := tq F T
          rw [Int.natCast_add] at e1
          have b1 : F / (T + 1) ≤ F := Nat.div_le_self _ _
          have b2 : F / T ≤ F := Nat.div_le_self _ _
          obtain ⟨r, h1, h2⟩ := S3' [(F : Int), (T : Int), (T : Int) + 1, (F : Int).tdiv ((T : Int) + 1), (F : Int), (T : Int), (F : Int).tdiv (T : Int)] rfl
          rw [← e1, ← e2] at h2
          refine ⟨r, h1, Comes.step progOk ref01_divide.p8 [] ?_ h2⟩
          simp only [EvOk, E.b, E.i, E.v, Env.ext, List.getD_cons_zero, List.getD_cons_succ, List.append_nil, ltB_iff, leB_iff, eqB_not, Bool.and_eq_true, Bool.not_eq_true', ltB_not, leB_not, and_true, mx, e2]
          simp only [Int.natCast_one] at e1
          rw [e1]
          generalize F / (T + 1) = X at *
          generalize F / T = Y at *
          omega
        obtain ⟨r', h1, h2⟩ := divide_first hN hb r41 hR (by omega) (i : Int) S2 (N + 2 - (N - 1)) (N + 2) 0 0 ((b.len - 1) + 1) (by omega) (Nat.le_refl _) (by
            rw [Nat.div_eq_of_lt (by rw [pw_succ]; rw [← hN] at hnl; omega)]; rfl) (by
            rw [Nat.div_eq_of_lt (by rw [pw_succ]; rw [← hN] at hnl; omega)]; rfl) (by omega)
        refine ⟨r', h1, Comes.step progOk ref01_divide.p2 [r4] ?_ h2⟩
        simp [EvOk, E.b, E.i, E.v, Env.ext, Sub.ev, ltB_iff, leB_iff, eqB_iff, eqB_not, ltB_not, leB_not]
        exact ⟨by omega, by omega, r42, by omega⟩
    have hlen : (a.len - (b.len - 1)) = (((dg m).length - N : Nat) : Int) := by omega
    have I0 : Ints (V.rep (a.len - (b.len - 1)) (.int 0)) (List.replicate ((dg m).length - N) 0) := by rw [hlen]; exact Ints.rep _ 0
    have I1 : Ints ((V.list []).app (a.sub (a.len - (b.len - 1)) a.len)) (dg (m / pw ((dg m).length - N) % n)) := by
      have h1 := ha.sub (i := (dg m).length - N) (j := (dg m).length) (by omega) (Nat.le_refl _)
      rw [List.take_length, dg_drop] at h1
      have h2 : m / pw ((dg m).length - N) < n := by
        refine Nat.lt_of_lt_of_le ?_ hNp
        rw [Nat.div_lt_iff_lt_mul (pw_pos _), ← pw_add, show N + ((dg m).length - N) = (dg m).length from by omega]; exact hml
      rw [Nat.mod_eq_of_lt h2, hlen, la]
      have := ints_emp.app h1
      simpa using this
    obtain ⟨r, ⟨x, y, rfl, h1, h2⟩, h3⟩ := outer ((dg m).length - N) ((V.rep (a.len - (b.len - 1)) (.int 0)).len - 1) .nil _ _ _ (Nat.le_refl _) (by rw [I0.len]; simp) I1 I0 (by intro x hx; have := List.eq_of_mem_replicate hx; omega) (by simp) (fun t ht => rep_get ht) (by
      have h2 : m / pw ((dg m).length - N) < n := by
        refine Nat.lt_of_lt_of_le ?_ hNp
        rw [Nat.div_lt_iff_lt_mul (pw_pos _), ← pw_add, show N + ((dg m).length - N) = (dg m).length from by omega]; exact hml
      rw [val_rep, Nat.div_eq_of_lt h2, Nat.mul_zero])
    refine ⟨x, y, h1, h2, Fn.of (C := ref01_divide.K) ref01_divide.b ?_⟩
    refine Comes.step progOk ref01_divide.p1 [] ?_ h3
    have c1 := I0.len
    have h4 := (ha.sub (i := (dg m).length - N) (j := (dg m).length) (by omega) (Nat.le_refl _)).len
    rw [← hlen, ← la] at h4
    simp only [List.length_replicate] at c1
    simp only [List.length_drop, List.length_take] at h4
    simp only [EvOk, E.b, E.i, E.v, Env.ext, List.getD_cons_zero, List.getD_cons_succ, List.append_nil, ltB_iff, leB_iff, Bool.and_eq_true, Bool.not_eq_true', ltB_not, leB_not, and_true, c1, h4]
    omega
end X
namespace X
open Go Go.Abs Go.Sym
set_option linter.unusedVariables false
set_option linter.unusedSimpArgs false

theorem gcd10_loop (a0 b0 : V) : ∀ (n m : Nat) (a b : V), Ints a (dg m) → Ints b (dg n) → (dg m).length ≤ 50000000 → (dg n).length ≤ 50000000 → ∃ r, Ints r (dg (Nat.gcd m n)) ∧ Comes ref01_gcd.K ref01_gcd.f ref01_gcd.s1 ⟨[], [], [a0, b0, a, b]⟩ r := by
  intro n
  induction n using Nat.strongRecOn with
  | _ n ih =>
    intro m a b ha hb lm ln
    have lb := hb.len
    by_cases h0 : n = 0
    · subst h0
      refine ⟨a, by simpa using ha, Comes.last progOk ref01_gcd.p2 [] ?_ ?_⟩
      · have : b.len = 0 := by simpa [dg_zero] using lb
        simp [EvOk, E.b, E.i, E.v, Env.ext, Sub.ev, ltB_iff, leB_iff, eqB_iff, eqB_not, ltB_not, leB_not]; omega
      · simp [EvOk, E.b, E.i, E.v, Env.ext, Sub.ev, ltB_iff, leB_iff, eqB_iff, eqB_not, ltB_not, leB_not]
    · obtain ⟨x, y, h1, h2, h3⟩ := divide_spec ha hb (by omega) lm ln
      have hlt : m % n < n := Nat.mod_lt _ (by omega)
      have hl : (dg (m % n)).length ≤ (dg n).length := dg_len (by have := val_lt (ok_dg n); rw [val_dg] at this; omega)
      obtain ⟨r, r1, r2⟩ := ih (m % n) hlt n b y hb h2 ln (by omega)
      rw [Nat.gcd_comm n, ← Nat.gcd_rec, Nat.gcd_comm n] at r1
      refine ⟨r, r1, Comes.step progOk ref01_gcd.p1 [.list [x, y]] ?_ r2⟩
      simp [EvOk, E.b, E.i, E.v, Env.ext, Sub.ev, ltB_iff, leB_iff, eqB_iff, eqB_not, ltB_not, leB_not]
      refine ⟨?_, h3⟩
      rw [lb]
      have : 0 < (dg n).length := (dg_lt n 0).2 (by rw [pw_zero]; simp; omega)
      omega
theorem gcd10_spec {a b : V} {m n : Nat} (ha : Ints a (dg m)) (hb : Ints b (dg n)) (lm : (dg m).length ≤ 50000000) (ln : (dg n).length ≤ 50000000) : ∃ r, Ints r (dg (Nat.gcd m n)) ∧ Fn prog ref01_gcd.f [a, b] r := by
  obtain ⟨r, r1, r2⟩ := gcd10_loop a b n m a b ha hb lm ln
  exact ⟨r, r1, Fn.of (C := ref01_gcd.K) ref01_gcd.b (Comes.step progOk ref01_gcd.p0 [] trivial r2)⟩

def big : Nat := 4611686018427387903
theorem value_loop {a x y : V} {m : Nat} (ha : Ints a (dg m)) (hm : m ≤ big) : ∀ (j : Nat) (s i : Int), j ≤ (dg m).length → i = (j : Int) - 1 → s = ((m / pw j : Nat) : Int) → Comes ref01_value.K ref01_value.f ref01_value.s1 ⟨[s, i], [], [a, x, y]⟩ (.list [.int m, .bool true]) := by
  have la := ha.len
  intro j
  induction j with
  | zero =>
    intro s i hj hi hs
    subst hi hs
    refine Comes.last progOk ref01_value.p3 [] ?_ ?_
    · simp [EvOk, E.b, E.i, E.v, Env.ext, Sub.ev, ltB_iff, leB_iff, eqB_iff, eqB_not, ltB_not, leB_not]
    · simp [EvOk, E.b, E.i, E.v, Env.ext, Sub.ev, ltB_iff, leB_iff, eqB_iff, eqB_not, ltB_not, leB_not]; simp [V.snoc, V.els, pw_zero]
  | succ j ih =>
    intro s i hj hi hs
    have hi' : i = (j : Int) := by omega
    subst hi' hs
    have g1 := dg_get m j
    rw [if_neg ((dg_lt m j).1 (by omega))] at g1
    have ga := ha.get g1
    have dm := div_pw m j
    have am := Nat.div_add_mod (m / pw j) 10000
    rw [← dm] at am
    have hd : m / pw j % 10000 < 10000 := Nat.mod_lt _ (by omega)
    have hle : m / pw j ≤ big := Nat.le_trans (Nat.div_le_self _ _) hm
    generalize m / pw (j + 1) = X at *
    generalize hY : m / pw j % 10000 = Y at *
    have hb5 : (dg m).length ≤ 5 := dg_len (by unfold pw; unfold big at hm; omega)
    unfold big at hle
    refine Comes.step progOk ref01_value.p2 [] ?_ (ih (10000 * (X : Int) + (a.get (j : Int)).toI) ((j : Int) - 1) (by omega) rfl (by rw [ga, ← am, Int.natCast_add, Int.natCast_mul]; rfl))
    simp only [EvOk, E.b, E.i, E.v, Env.ext, List.getD_cons_zero, List.getD_cons_succ, List.append_nil, ltB_iff, leB_iff, Bool.and_eq_true, Bool.not_eq_true', ltB_not, leB_not, and_true, ga]
    omega
theorem value_spec {a : V} {m : Nat} (ha : Ints a (dg m)) (lm : (dg m).length ≤ 50000000) : Fn prog ref01_value.f [a] (if m ≤ big then .list [.int m, .bool true] else .list [.int 0, .bool false]) := by
  have la := ha.len
  obtain ⟨r1, r11, r12⟩ := digits_spec 4611686018427387903 (by omega) (by omega)
  have hc := compare_spec ha r11 (by omega)
  have hbig : ((4611686018427387903 : Int).natAbs) = big := rfl
  rw [hbig] at hc
  clear hbig
  clear r11
  by_cases h : m ≤ big
  · rw [if_pos h]
    refine Fn.of (C := ref01_value.K) ref01_value.b (Comes.step progOk ref01_value.p1 [r1, .int (cmpN m big)] ?_ (value_loop ha h (dg m).length 0 (a.len - 1) (Nat.le_refl _) (by rw [la]) ?_))
    · simp only [EvOk, E.b, E.i, E.v, Env.ext, List.map_cons, List.map_nil, List.cons_append, List.nil_append, List.getD_cons_zero, List.getD_cons_succ, List.append_nil, ltB_iff, leB_iff, Bool.and_eq_true, Bool.not_eq_true', ltB_not, leB_not, and_true]
      refine ⟨r12, hc, ?_, by omega⟩
      show cmpN m big ≤ 0
      clear hc r12; unfold cmpN; split <;> (try split) <;> omega
    · rw [Nat.div_eq_of_lt]; · rfl
      have := val_lt (ok_dg m); rwa [val_dg] at this
  · rw [if_neg h]
    refine Fn.of (C := ref01_value.K) ref01_value.b (Comes.last progOk ref01_value.p0 [r1, .int (cmpN m big)] ?_ ?_)
    · simp only [EvOk, E.b, E.i, E.v, Env.ext, List.map_cons, List.map_nil, List.cons_append, List.nil_append, List.getD_cons_zero, List.getD_cons_succ, List.append_nil, ltB_iff, leB_iff, Bool.and_eq_true, Bool.not_eq_true', ltB_not, leB_not, and_true]
      refine ⟨r12, hc, ?_⟩
      show 0 < cmpN m big
      clear hc r12; unfold cmpN; split <;> (try split) <;> omega
    · simp [EvOk, E.b, E.i, E.v, Env.ext, Sub.ev, ltB_iff, leB_iff, eqB_iff, eqB_not, ltB_not, leB_not]; simp [V.snoc, V.els]

/-- A fraction. -/
def qV (neg : Bool) (n d : Nat) : V := .list [.int (if neg then -(n : Int) else n), .int d]
/-- What a numerator and a denominator make. -/
def madeV (neg : Bool) (n d : Nat) : V :=
  if n / n.gcd d ≤ big ∧ d / n.gcd d ≤ big then .list [qV neg (n / n.gcd d) (d / n.gcd d), .bool true] else .list [.list [.int 0, .int 0], .bool false]
theorem made_spec {a b : V} {m n : Nat} {neg : Bool} (ha : Ints a (dg m)) (hb : Ints b (dg n)) (hn : 0 < n) (lm : (dg m).length ≤ 50000000) (ln : (dg n).length ≤ 50000000) : Fn prog ref01_made.f [.bool neg, a, b] (madeV neg m n) := by
  obtain ⟨r3, r31, r32⟩ := gcd10_spec ha hb lm ln
  have hg : 0 < m.gcd n := Nat.gcd_pos_of_pos_right _ hn
  have lg : (dg (m.gcd n)).length ≤ (dg n).length := dg_len (by
    have := val_lt (ok_dg n); rw [val_dg] at this
    exact Nat.lt_of_le_of_lt (Nat.gcd_le_right _ hn) this)
  obtain ⟨x4, y4, x41, y41, r4⟩ := divide_spec ha r31 hg lm (by omega)
  obtain ⟨x5, y5, x51, y51, r5⟩ := divide_spec hb r31 hg ln (by omega)
  have l4 : (dg (m / m.gcd n)).length ≤ (dg m).length := dg_len (by
    have := val_lt (ok_dg m); rw [val_dg] at this
    exact Nat.lt_of_le_of_lt (Nat.div_le_self _ _) this)
  have l5 : (dg (n / m.gcd n)).length ≤ (dg n).length := dg_len (by
    have := val_lt (ok_dg n); rw [val_dg] at this
    exact Nat.lt_of_le_of_lt (Nat.div_le_self _ _) this)
  have r6 := value_spec x41 (by omega)
  have r7 := value_spec x51 (by omega)
  unfold madeV
  by_cases h1 : m / m.gcd n ≤ big
  · rw [if_pos h1] at r6
    by_cases h2 : n / m.gcd n ≤ big
    · rw [if_pos h2] at r7
      rw [if_pos ⟨h1, h2⟩]
      generalize m / m.gcd n = M at *
      generalize n / m.gcd n = N at *
      cases neg with
      | true =>
        refine Fn.of (C := ref01_made.K) ref01_made.b (Comes.last progOk ref01_made.p2 [r3, .list [x4, y4], .list [x5, y5], .list [.int M, .bool true], .list [.int N, .bool true]] ?_ ?_)
        · unfold big at h1 h2
          simp [EvOk, E.b, E.i, E.v, Env.ext, Sub.ev, ltB_iff, leB_iff, eqB_iff, eqB_not, ltB_not, leB_not]
          exact ⟨r32, r4, r5, r6, r7, rfl, rfl, rfl, by simp [V.get, V.els, V.toI]; omega, by simp [V.get, V.els, V.toI]⟩
        · simp [EvOk, E.b, E.i, E.v, Env.ext, Sub.ev, ltB_iff, leB_iff, eqB_iff, eqB_not, ltB_not, leB_not]; simp [V.snoc, V.els, V.get, V.toI, qV]
      | false =>
        refine Fn.of (C := ref01_made.K) ref01_made.b (Comes.last progOk ref01_made.p3 [r3, .list [x4, y4], .list [x5, y5], .list [.int M, .bool true], .list [.int N, .bool true]] ?_ ?_)
        · simp [EvOk, E.b, E.i, E.v, Env.ext, Sub.ev, ltB_iff, leB_iff, eqB_iff, eqB_not, ltB_not, leB_not]
          exact ⟨r32, r4, r5, r6, r7, rfl, rfl, rfl⟩
        · simp [EvOk, E.b, E.i, E.v, Env.ext, Sub.ev, ltB_iff, leB_iff, eqB_iff, eqB_not, ltB_not, leB_not]; simp [V.snoc, V.els, V.get, V.toI, qV]
    · rw [if_neg h2] at r7
      rw [if_neg (fun h => h2 h.2)]
      refine Fn.of (C := ref01_made.K) ref01_made.b (Comes.last progOk ref01_made.p1 [r3, .list [x4, y4], .list [x5, y5], .list [.int (m / m.gcd n : Nat), .bool true], .list [.int 0, .bool false]] ?_ ?_)
      · generalize m / m.gcd n = M at *
        generalize n / m.gcd n = N at *
        simp [EvOk, E.b, E.i, E.v, Env.ext, Sub.ev, ltB_iff, leB_iff, eqB_iff, eqB_not, ltB_not, leB_not]
        exact ⟨r32, r4, r5, r6, r7, rfl, rfl⟩
      · simp [EvOk, E.b, E.i, E.v, Env.ext, Sub.ev, ltB_iff, leB_iff, eqB_iff, eqB_not, ltB_not, leB_not]; simp [V.snoc, V.els]
  · rw [if_neg h1] at r6
    rw [if_neg (fun h => h1 h.1)]
    generalize (if n / m.gcd n ≤ big then V.list [.int (n / m.gcd n : Nat), .bool true] else V.list [.int 0, .bool false]) = v7 at r7
    refine Fn.of (C := ref01_made.K) ref01_made.b (Comes.last progOk ref01_made.p0 [r3, .list [x4, y4], .list [x5, y5], .list [.int 0, .bool false], v7] ?_ ?_)
    · simp [EvOk, E.b, E.i, E.v, Env.ext, Sub.ev, ltB_iff, leB_iff, eqB_iff, eqB_not, ltB_not, leB_not]
      exact ⟨r32, r4, r5, r6, r7, rfl⟩
    · simp [EvOk, E.b, E.i, E.v, Env.ext, Sub.ev, ltB_iff, leB_iff, eqB_iff, eqB_not, ltB_not, leB_not]; simp [V.snoc, V.els]
def negQ (n d : Int) : Bool := !((decide (n < 0)) == (decide (d < 0)))
def madeI (n d : Int) : V := madeV (negQ n d) n.natAbs d.natAbs
theorem Make10_spec {n d : Int} (hd : d ≠ 0) (h1 : -9223372036854775808 ≤ n) (h2 : n ≤ 9223372036854775807) (h3 : -9223372036854775808 ≤ d) (h4 : d ≤ 9223372036854775807) : Fn prog ref01_Make.f [.int n, .int d] (madeI n d) := by
  obtain ⟨a, a1, a2⟩ := digits_spec n h1 h2
  obtain ⟨b, b1, b2⟩ := digits_spec d h3 h4
  have l1 : (dg n.natAbs).length ≤ 5 := dg_len (by unfold pw; omega)
  have l2 : (dg d.natAbs).length ≤ 5 := dg_len (by unfold pw; omega)
  have r := made_spec (neg := negQ n d) a1 b1 (by omega) (by omega) (by omega)
  refine Fn.of (C := ref01_Make.K) ref01_Make.b (Comes.last progOk ref01_Make.p0 [a, b, madeV (negQ n d) n.natAbs d.natAbs] ?_ ?_)
  · simp [EvOk, E.b, E.i, E.v, Env.ext, Sub.ev, ltB_iff, leB_iff, eqB_iff, eqB_not, ltB_not, leB_not]
    exact ⟨a2, b2, r⟩
  · simp [EvOk, E.b, E.i, E.v, Env.ext, Sub.ev, ltB_iff, leB_iff, eqB_iff, eqB_not, ltB_not, leB_not]
    unfold madeI madeV
    split <;> simp [V.snoc, V.els, V.get, V.toI, V.toB, qV]
def ofQ (n d : Int) : V :=
  if n.natAbs / n.natAbs.gcd d.natAbs ≤ big ∧ d.natAbs / n.natAbs.gcd d.natAbs ≤ big then qV (negQ n d) (n.natAbs / n.natAbs.gcd d.natAbs) (d.natAbs / n.natAbs.gcd d.natAbs) else .list [.int 0, .int 0]
theorem Of_spec {n d : Int} (hd : d ≠ 0) (h1 : -9223372036854775808 ≤ n) (h2 : n ≤ 9223372036854775807) (h3 : -9223372036854775808 ≤ d) (h4 : d ≤ 9223372036854775807) : Fn prog ref01_Of.f [.int n, .int d] (ofQ n d) := by
  have r := Make10_spec hd h1 h2 h3 h4
  refine Fn.of (C := ref01_Of.K) ref01_Of.b (Comes.last progOk ref01_Of.p0 [madeI n d] ?_ ?_)
  · simp [EvOk, E.b, E.i, E.v, Env.ext, Sub.ev, ltB_iff, leB_iff, eqB_iff, eqB_not, ltB_not, leB_not]
    exact r
  · simp [EvOk, E.b, E.i, E.v, Env.ext, Sub.ev, ltB_iff, leB_iff, eqB_iff, eqB_not, ltB_not, leB_not]
    unfold madeI madeV ofQ
    split <;> simp [V.snoc, V.els, V.get, V.toI, V.toB, qV]
end X
namespace X
open Go Go.Abs Go.Sym
set_option linter.unusedVariables false
set_option linter.unusedSimpArgs false

/-- conditions and results, worked out -/

theorem size_spec (n : Nat) (h : n ≤ 9223372036854775807) : Fn prog frac_size.f [.int n] (.int n) := by
  refine Fn.of (C := frac_size.K) frac_size.b (Comes.last progOk frac_size.p1 [] ?_ ?_)
  · simp [EvOk, E.b, E.i, E.v, Env.ext, Sub.ev, ltB_iff, leB_iff, eqB_iff, eqB_not, ltB_not, leB_not, V.get, V.els, V.toI, V.toB, V.snoc, V.len]
  · simp [EvOk, E.b, E.i, E.v, Env.ext, Sub.ev, ltB_iff, leB_iff, eqB_iff, eqB_not, ltB_not, leB_not, V.get, V.els, V.toI, V.toB, V.snoc, V.len]
    simp [IntKind.wrap, IntKind.signed, IntKind.bits]
    omega
theorem Make_spec {n d : Nat} (hd : 0 < d) (h1 : n ≤ big) (h2 : d ≤ big) : Fn prog frac_Make.f [.int n, .int d] (.list [qV false (n / n.gcd d) (d / n.gcd d), .int 0]) := by
  have hg : 0 < n.gcd d := Nat.gcd_pos_of_pos_right _ hd
  have q1 : n / n.gcd d ≤ n := Nat.div_le_self _ _
  have q2 : d / n.gcd d ≤ d := Nat.div_le_self _ _
  unfold big at h1 h2
  have s1 := size_spec n (by omega)
  have s2 := size_spec d (by omega)
  have s3 := gcd_spec n d
  have t1 : ((n : Int)).tdiv ((n.gcd d : Nat) : Int) = ((n / n.gcd d : Nat) : Int) := by rw [Int.tdiv_eq_ediv_of_nonneg (by omega)]; rfl
  have t2 : ((d : Int)).tdiv ((n.gcd d : Nat) : Int) = ((d / n.gcd d : Nat) : Int) := by rw [Int.tdiv_eq_ediv_of_nonneg (by omega)]; rfl
  have hg' : ¬ ((n.gcd d : Nat) : Int) = 0 := by omega
  generalize n.gcd d = g at *
  generalize n / g = a at *
  generalize d / g = b at *
  by_cases h0 : n = 0
  · subst h0
    refine Fn.of (C := frac_Make.K) frac_Make.b (Comes.last progOk frac_Make.p7 [.int (0 : Nat), .int d, .int g, .int (0 : Nat), .int d] ?_ ?_)
    · simp only [EvOk, E.b, E.i, E.v, Env.ext, List.map_cons, List.map_nil, List.cons_append, List.nil_append, List.getD_cons_zero, List.getD_cons_succ, V.toI, ltB_iff, leB_iff, eqB_iff, eqB_not, Bool.and_eq_true, Bool.not_eq_true', Bool.not_eq_false', ltB_not, leB_not, and_true, t1, t2]
      refine ⟨by omega, s1, s2, s3, by omega, s1, hg', by omega, s2, hg', ?_⟩
      omega
    · simp only [E.b, E.i, E.v, Env.ext, List.cons_append, List.nil_append, List.getD_cons_zero, List.getD_cons_succ, V.toI, t1, t2, V.snoc, V.els, qV]
      rfl
  · refine Fn.of (C := frac_Make.K) frac_Make.b (Comes.last progOk frac_Make.p4 [.int n, .int d, .int g, .int n, .int d] ?_ ?_)
    · simp only [EvOk, E.b, E.i, E.v, Env.ext, List.map_cons, List.map_nil, List.cons_append, List.nil_append, List.getD_cons_zero, List.getD_cons_succ, V.toI, ltB_iff, leB_iff, eqB_iff, eqB_not, Bool.and_eq_true, Bool.not_eq_true', Bool.not_eq_false', ltB_not, leB_not, and_true, t1, t2]
      refine ⟨by omega, s1, s2, s3, by omega, s1, hg', by omega, s2, hg', by omega, by omega, by omega, ?_, by omega, by omega⟩
      have e1 : ltB (n : Int) 0 = false := by rw [ltB_not]; omega
      have e2 : ltB (d : Int) 0 = false := by rw [ltB_not]; omega
      simp [e1, e2]
    · simp only [E.b, E.i, E.v, Env.ext, List.cons_append, List.nil_append, List.getD_cons_zero, List.getD_cons_succ, V.toI, t1, t2, V.snoc, V.els, qV]
      rfl
theorem power_spec (a n : Nat) (hn : n ≤ 11) (ha : a ≤ 20) : Fn prog lift_power.f [.int a, .int n] (.int (a ^ n : Nat)) := by
  have loop : ∀ (t i : Nat) (i' c : Int), t + i = n → i' = i → c = ((a ^ i : Nat) : Int) → Comes lift_power.K lift_power.f lift_power.s1 ⟨[c, i'], [], [.int a, .int n]⟩ (.int (a ^ n : Nat)) := by
    intro t
    induction t with
    | zero =>
      intro i i' c ht hi hc
      have : i = n := by omega
      subst this hi hc
      refine Comes.last progOk lift_power.p2 [] ?_ ?_
      · simp [EvOk, E.b, E.i, E.v, Env.ext, Sub.ev, ltB_iff, leB_iff, eqB_iff, eqB_not, ltB_not, leB_not, V.get, V.els, V.toI, V.toB, V.snoc, V.len]
      · simp [EvOk, E.b, E.i, E.v, Env.ext, Sub.ev, ltB_iff, leB_iff, eqB_iff, eqB_not, ltB_not, leB_not, V.get, V.els, V.toI, V.toB, V.snoc, V.len]
    | succ t ih =>
      intro i i' c ht hi hc
      subst hi hc
      have hb : a ^ (i + 1) ≤ 20 ^ 11 := Nat.le_trans (Nat.pow_le_pow_left ha _) (Nat.pow_le_pow_right (by omega) (by omega))
      have hm : ((a ^ i : Nat) : Int) * (a : Int) = ((a ^ (i + 1) : Nat) : Int) := by rw [Nat.pow_succ, Int.natCast_mul]
      refine Comes.step progOk lift_power.p1 [] ?_ (ih (i + 1) ((i : Int) + 1) (((a ^ i : Nat) : Int) * (a : Int)) (by omega) (by omega) hm)
      simp only [EvOk, E.b, E.i, E.v, Env.ext, List.cons_append, List.nil_append, List.append_nil, List.getD_cons_zero, List.getD_cons_succ, V.toI, ltB_iff, leB_iff, Bool.and_eq_true, and_true, hm]
      generalize a ^ (i + 1) = x at *
      omega
  exact Fn.of (C := lift_power.K) lift_power.b (Comes.step progOk lift_power.p0 [] trivial (loop n 0 0 1 (by omega) rfl rfl))
end X
namespace X
open Go Go.Abs Go.Sym
set_option linter.unusedVariables false
set_option linter.unusedSimpArgs false

/-- A valid lifted model. -/
structure LMod (R : V) (G n o k : Nat) (rows : List (List Nat)) : Prop where
  g1 : 1 ≤ G
  g2 : G ≤ 20
  n1 : 1 ≤ n
  n2 : n ≤ 10
  o1 : o ≤ G
  k1 : 2 ≤ k
  k2 : k ≤ 4
  len : rows.length = n + 1
  rlen : R.els.length = n + 1
  row : ∀ (j : Nat) (r : List Nat), rows[j]? = some r → Ints (R.get (j : Int)) r ∧ r.length = k ∧ r.sum = G
def lv (G n o : Nat) (R : V) : V := .list [.int G, .int n, .int o, R]
def cv (l : V) (z e : Nat) (c : Int) : V := .list [l, .int z, .int e, .int c]

theorem toI_int (z : Int) : (V.int z).toI = z := rfl
theorem toB_bool (b : Bool) : (V.bool b).toB = b := rfl
theorem sum_take (r : List Nat) (i d : Nat) (h : r[i]? = some d) : (r.take (i + 1)).sum = (r.take i).sum + d := by
  rw [List.take_add_one, h]; simp
theorem le_sum {r : List Nat} {d : Nat} (h : d ∈ r) : d ≤ r.sum := by
  induction r with
  | nil => cases h
  | cons a r ih =>
    simp only [List.sum_cons]
    rcases List.mem_cons.1 h with rfl | h
    · omega
    · have := ih h; omega
theorem take_sum_le (r : List Nat) (i : Nat) : (r.take i).sum ≤ r.sum := by
  conv => rhs; rw [← List.take_append_drop i r, List.sum_append]
  omega
theorem valid_spec {R : V} {G n o k : Nat} {rows : List (List Nat)} (M : LMod R G n o k rows) : Fn prog lift_valid.f [lv G n o R] (.bool true) := by
  obtain ⟨g1, g2, n1, n2, o1, k1, k2, len, rlen, row⟩ := M
  have hR : R.len = (n + 1 : Int) := by simp [V.len, rlen]
  obtain ⟨r0, hr0⟩ : ∃ r, rows[0]? = some r := ⟨_, List.getElem?_eq_getElem (by omega)⟩
  have row0 := row 0 r0 hr0
  have l0 := row0.1.len
  have l0' : (R.get 0).len = k := by rw [row0.2.1] at l0; exact l0
  have inner : ∀ (j : Nat) (r : List Nat), rows[j]? = some r → (Comes lift_valid.K lift_valid.f lift_valid.s1 ⟨[(j : Int) + 1], [], [lv G n o R]⟩ (.bool true)) → ∀ (t i : Nat) (s' i' : Int), t + i = r.length → i' = i → s' = ((r.take i).sum : Nat) → Comes lift_valid.K lift_valid.f lift_valid.s2 ⟨[s', i', (j : Int), (R.get (j : Int)).len], [], [lv G n o R, R.get (j : Int), R.get (j : Int)]⟩ (.bool true) := by
    intro j r hr H t
    obtain ⟨hi1, hi2, hi3⟩ := row j r hr
    have hlen := hi1.len
    have hj : j < rows.length := (List.getElem?_eq_some_iff.1 hr).1
    induction t with
    | zero =>
      intro i s' i' ht hi hs
      have : i = r.length := by omega
      subst this hi hs
      rw [List.take_length, hi3]
      refine Comes.step progOk lift_valid.p17 [] ?_ H
      simp only [EvOk, E.b, E.i, E.v, Env.ext, List.cons_append, List.nil_append, List.append_nil, List.getD_cons_zero, List.getD_cons_succ, V.toI, lv, ltB_iff, leB_iff, eqB_iff, ltB_not, Bool.not_eq_true', Bool.not_eq_false', Bool.not_not, Bool.and_eq_true, and_true]
      have e1 : (V.list [V.int ↑G, V.int ↑n, V.int ↑o, R]).get 3 = R := rfl
      have e2 : (V.list [V.int ↑G, V.int ↑n, V.int ↑o, R]).get 0 = .int G := rfl
      simp only [e1, e2, l0', hlen, hi2, true_and, hi3]
      omega
    | succ t ih =>
      intro i s' i' ht hi hs
      subst hi hs
      obtain ⟨d, hd⟩ : ∃ e, r[i]? = some e := ⟨_, List.getElem?_eq_getElem (by omega)⟩
      have gd := hi1.get hd
      have hdG : d ≤ G := hi3 ▸ le_sum (List.mem_of_getElem? hd)
      have hs1 := sum_take r i d hd
      have hs2 := take_sum_le r (i + 1)
      refine Comes.step progOk lift_valid.p14 [] ?_ (ih (i + 1) (((r.take i).sum : Nat) + ((R.get (j : Int)).get (i : Int)).toI) ((i : Int) + 1) (by omega) (by omega) (by rw [gd, hs1]; omega))
      simp only [EvOk, E.b, E.i, E.v, Env.ext, List.cons_append, List.nil_append, List.append_nil, List.getD_cons_zero, List.getD_cons_succ, lv, ltB_iff, leB_iff, eqB_iff, ltB_not, Bool.not_eq_true', Bool.not_eq_false', Bool.not_not, Bool.and_eq_true, and_true]
      have e2 : ((V.list [V.int ↑G, V.int ↑n, V.int ↑o, R]).get 0).toI = G := rfl
      simp only [e2, gd, hlen]
      omega
  have outer : ∀ (t j : Nat) (j' : Int), t + j = n + 1 → j' = j → Comes lift_valid.K lift_valid.f lift_valid.s1 ⟨[j'], [], [lv G n o R]⟩ (.bool true) := by
    intro t
    induction t with
    | zero =>
      intro j j' ht hj
      subst hj
      refine Comes.last progOk lift_valid.p11 [] ?_ ?_
      · simp only [EvOk, E.b, E.i, E.v, Env.ext, List.cons_append, List.nil_append, List.append_nil, List.getD_cons_zero, List.getD_cons_succ, lv, Bool.not_eq_true', ltB_not, and_true]
        have e1 : (V.list [V.int ↑G, V.int ↑n, V.int ↑o, R]).get 3 = R := rfl
        simp only [e1, hR]
        omega
      · simp [EvOk, E.b, E.i, E.v, Env.ext, Sub.ev, ltB_iff, leB_iff, eqB_iff, eqB_not, ltB_not, leB_not]
    | succ t ih =>
      intro j j' ht hj
      subst hj
      obtain ⟨r, hr⟩ : ∃ e, rows[j]? = some e := ⟨_, List.getElem?_eq_getElem (by omega)⟩
      have k := inner j r hr (ih (j + 1) ((j : Int) + 1) (by omega) (by omega)) r.length 0 0 0 (by omega) rfl rfl
      refine Comes.step progOk lift_valid.p10 [] ?_ k
      simp only [EvOk, E.b, E.i, E.v, Env.ext, List.cons_append, List.nil_append, List.append_nil, List.getD_cons_zero, List.getD_cons_succ, lv, ltB_iff, leB_iff, Bool.and_eq_true, and_true]
      have e1 : (V.list [V.int ↑G, V.int ↑n, V.int ↑o, R]).get 3 = R := rfl
      simp only [e1, hR]
      omega
  refine Fn.of (C := lift_valid.K) lift_valid.b (Comes.step progOk lift_valid.p9 [] ?_ (outer (n + 1) 0 0 (by omega) rfl))
  simp only [EvOk, E.b, E.i, E.v, Env.ext, List.cons_append, List.nil_append, List.append_nil, List.getD_cons_zero, List.getD_cons_succ, lv, ltB_iff, leB_iff, eqB_iff, ltB_not, Bool.not_eq_true', Bool.not_eq_false', Bool.not_not, Bool.and_eq_true, and_true]
  have e1 : (V.list [V.int ↑G, V.int ↑n, V.int ↑o, R]).get 3 = R := rfl
  have e2 : ((V.list [V.int ↑G, V.int ↑n, V.int ↑o, R]).get 0).toI = G := rfl
  have e3 : ((V.list [V.int ↑G, V.int ↑n, V.int ↑o, R]).get 1).toI = n := rfl
  have e4 : ((V.list [V.int ↑G, V.int ↑n, V.int ↑o, R]).get 2).toI = o := rfl
  simp only [e1, e2, e3, e4, hR, l0', true_and]
  omega
theorem count_spec {R : V} {G n o k : Nat} {rows : List (List Nat)} (M : LMod R G n o k rows) {z e : Nat} {c : Int} (h1 : z + e ≤ n) (h2 : -1 ≤ c) (h3 : c < k) : Fn prog lift_count.f [lv G n o R, .int z, .int e, .int c] (.list [cv (lv G n o R) z e c, .int 0]) := by
  have hv := valid_spec M
  obtain ⟨g1, g2, n1, n2, o1, k1, k2, len, rlen, row⟩ := M
  have hR : R.len = (n + 1 : Int) := by simp [V.len, rlen]
  obtain ⟨r0, hr0⟩ : ∃ r, rows[0]? = some r := ⟨_, List.getElem?_eq_getElem (by omega)⟩
  have row0 := row 0 r0 hr0
  have l0 := row0.1.len
  have l0' : (R.get 0).len = k := by rw [row0.2.1] at l0; exact l0
  refine Fn.of (C := lift_count.K) lift_count.b (Comes.last progOk lift_count.p7 [.bool true] ?_ ?_)
  · have e1 : (V.list [V.int ↑G, V.int ↑n, V.int ↑o, R]).get 3 = R := rfl
    have e2 : ((V.list [V.int ↑G, V.int ↑n, V.int ↑o, R]).get 0).toI = G := rfl
    have e3 : ((V.list [V.int ↑G, V.int ↑n, V.int ↑o, R]).get 1).toI = n := rfl
    have e4 : ((V.list [V.int ↑G, V.int ↑n, V.int ↑o, R]).get 2).toI = o := rfl
    simp only [EvOk, E.b, E.i, E.v, Env.ext, List.map_cons, List.map_nil, List.cons_append, List.nil_append, List.append_nil, List.getD_cons_zero, List.getD_cons_succ, lv, toI_int, toB_bool, ltB_iff, leB_iff, eqB_iff, ltB_not, leB_not, Bool.not_eq_true', Bool.not_eq_false', Bool.not_not, Bool.and_eq_true, and_true, true_and, e1, e2, e3, e4, hR, l0']
    refine ⟨?_, by omega⟩
    exact hv
  · simp only [E.i, E.v, Env.ext, List.cons_append, List.nil_append, List.append_nil, List.getD_cons_zero, List.getD_cons_succ, lv, cv]
    rfl
end X
namespace X
open Go Go.Abs Go.Sym
set_option linter.unusedVariables false
set_option linter.unusedSimpArgs false

def bin : Nat → Nat → Nat
  | _, 0 => 1
  | 0, _ + 1 => 0
  | n + 1, k + 1 => bin n k + bin n (k + 1)
theorem bin_step : ∀ n, n ≤ 10 → ∀ k, k ≤ 10 → bin n (k + 1) = bin n k * (n - k) / (k + 1) := by decide
theorem bin_le : ∀ n, n ≤ 10 → ∀ k, k ≤ 11 → bin n k ≤ 252 := by decide
/-- What is known of the child. -/
def shw (G : Nat) (rows : List (List Nat)) (c : Int) (j : Nat) : Nat := if c < 0 then G else ((rows[j]?.getD [])[c.toNat]?.getD 0)
/-- The weight of j ones, with e ones and m unknown ones. -/
def wt (G n o : Nat) (rows : List (List Nat)) (c : Int) (e m j : Nat) : Nat := if e ≤ j ∧ j ≤ e + m then bin m (j - e) * o ^ j * (G - o) ^ (n - j) * shw G rows c j else 0
def wts (G n o : Nat) (rows : List (List Nat)) (c : Int) (e m : Nat) : List Nat := (List.range (n + 1)).map (wt G n o rows c e m)

theorem shw_le {R : V} {G n o k : Nat} {rows : List (List Nat)} (M : LMod R G n o k rows) (c : Int) (j : Nat) : shw G rows c j ≤ 20 := by
  unfold shw
  split
  · exact M.g2
  · cases hr : rows[j]? with
    | none => simp
    | some r =>
      simp only [Option.getD_some]
      cases hd : r[c.toNat]? with
      | none => simp
      | some d =>
        simp only [Option.getD_some]
        have := (M.row j r hr).2.2
        have := le_sum (List.mem_of_getElem? hd)
        have := M.g2
        omega
theorem shows_spec {R : V} {G n o k : Nat} {rows : List (List Nat)} (M : LMod R G n o k rows) {z e : Nat} {c : Int} (h3 : c < k) {j : Nat} (hj : j ≤ n) : Fn prog lift_shows.f [cv (lv G n o R) z e c, .int j] (.int (shw G rows c j)) := by
  obtain ⟨r, hr⟩ : ∃ r, rows[j]? = some r := ⟨_, List.getElem?_eq_getElem (by have := M.len; omega)⟩
  obtain ⟨i1, i2, i3⟩ := M.row j r hr
  have hR : R.len = (n + 1 : Int) := by simp [V.len, M.rlen]
  have hl := i1.len
  have e0 : (cv (lv G n o R) z e c).get 0 = lv G n o R := rfl
  have e3 : ((cv (lv G n o R) z e c).get 3).toI = c := rfl
  have e1 : (lv G n o R).get 3 = R := rfl
  have e2 : ((lv G n o R).get 0).toI = G := rfl
  by_cases hc : c < 0
  · refine Fn.of (C := lift_shows.K) lift_shows.b (Comes.last progOk lift_shows.p0 [] ?_ ?_)
    · simp only [EvOk, E.b, E.i, E.v, Env.ext, List.append_nil, List.getD_cons_zero, List.getD_cons_succ, ltB_iff, e3, and_true]; exact hc
    · simp only [E.i, E.v, Env.ext, List.append_nil, List.getD_cons_zero, List.getD_cons_succ, e0, e2, shw, if_pos hc]
  · refine Fn.of (C := lift_shows.K) lift_shows.b (Comes.last progOk lift_shows.p1 [] ?_ ?_)
    · simp only [EvOk, E.b, E.i, E.v, Env.ext, List.append_nil, List.getD_cons_zero, List.getD_cons_succ, ltB_iff, leB_iff, ltB_not, Bool.not_eq_true', Bool.and_eq_true, toI_int, e0, e1, e2, e3, and_true, hR, hl, i2]
      omega
    · obtain ⟨d, hd⟩ : ∃ d, r[c.toNat]? = some d := ⟨_, List.getElem?_eq_getElem (by omega)⟩
      have gd := i1.get hd
      rw [show ((c.toNat : Nat) : Int) = c from by omega] at gd
      simp only [E.i, E.v, Env.ext, List.append_nil, List.getD_cons_zero, List.getD_cons_succ, toI_int, e0, e1, e3, gd, shw, if_neg hc, hr, hd, Option.getD_some]
theorem map_set (n i d : Nat) (f g : Nat → Nat) (h : ∀ j, g j = if j = i then d else f j) : ((List.range n).map f).set i d = (List.range n).map g := by
  apply List.ext_getElem?
  intro j
  rw [List.getElem?_set]
  by_cases hj : j < n
  · simp [hj, h]
    by_cases q : i = j
    · subst q; simp [hj]
    · simp [q, Ne.symm q]
  · simp [hj]
    intro q; omega
theorem weights_spec {R : V} {G n o k : Nat} {rows : List (List Nat)} (M : LMod R G n o k rows) {z e m : Nat} {c : Int} (h1 : z + e + m = n) (h3 : c < k) : ∃ r, Ints r (wts G n o rows c e m) ∧ Fn prog lift_weights.f [cv (lv G n o R) z e c] r := by
  have e0 : (cv (lv G n o R) z e c).get 0 = lv G n o R := rfl
  have e3 : ((cv (lv G n o R) z e c).get 3).toI = c := rfl
  have ez : ((cv (lv G n o R) z e c).get 1).toI = z := rfl
  have ee : ((cv (lv G n o R) z e c).get 2).toI = e := rfl
  have l0 : ((lv G n o R).get 0).toI = G := rfl
  have l1 : ((lv G n o R).get 1).toI = n := rfl
  have l2 : ((lv G n o R).get 2).toI = o := rfl
  have l3 : (lv G n o R).get 3 = R := rfl
  have hG := M.g2
  have hn := M.n2
  have ho := M.o1
  let part := fun (i j : Nat) => if j < e + i then wt G n o rows c e m j else 0
  have loop : ∀ (t i : Nat) (i' b : Int) (out : V), t + i = m + 1 → i' = i → b = (bin m i : Nat) → Ints out ((List.range (n + 1)).map (part i)) → ∃ r, Ints r (wts G n o rows c e m) ∧ Comes lift_weights.K lift_weights.f lift_weights.s1 ⟨[b, i'], [], [cv (lv G n o R) z e c, out]⟩ r := by
    intro t
    induction t with
    | zero =>
      intro i i' b out ht hi hb hout
      have : i = m + 1 := by omega
      subst this hi hb
      have heq : (List.range (n + 1)).map (part (m + 1)) = wts G n o rows c e m := by
        unfold wts
        apply List.map_congr_left
        intro j hj
        simp only [part]
        split
        · rfl
        · unfold wt; rw [if_neg (by omega)]
      rw [heq] at hout
      refine ⟨out, hout, Comes.last progOk lift_weights.p2 [] ?_ ?_⟩
      · simp only [EvOk, E.b, E.i, E.v, Env.ext, List.append_nil, List.getD_cons_zero, List.getD_cons_succ, leB_not, Bool.not_eq_true', e0, ez, ee, l1, and_true]
        omega
      · simp [EvOk, E.b, E.i, E.v, Env.ext, Sub.ev, ltB_iff, leB_iff, eqB_iff, eqB_not, ltB_not, leB_not]
    | succ t ih =>
      intro i i' b out ht hi hb hout
      subst hi hb
      have lo := hout.len
      simp only [List.length_map, List.length_range] at lo
      have p1 := power_spec o (e + i) (by omega) (by omega)
      have p2 := power_spec (G - o) (n - (e + i)) (by omega) (by omega)
      have p3 := shows_spec M (z := z) (e := e) h3 (j := e + i) (by omega)
      have s1 := shw_le M c (e + i)
      have b1 := bin_le m (by omega) i (by omega)
      have x1 : o ^ (e + i) ≤ 20 ^ (e + i) := Nat.pow_le_pow_left (by omega) _
      have x2 : (G - o) ^ (n - (e + i)) ≤ 20 ^ (n - (e + i)) := Nat.pow_le_pow_left (by omega) _
      have x3 : o ^ (e + i) * (G - o) ^ (n - (e + i)) ≤ 20 ^ 10 := by
        refine Nat.le_trans (Nat.mul_le_mul x1 x2) ?_
        rw [← Nat.pow_add]
        exact Nat.pow_le_pow_right (by omega) (by omega)
      have x0 : o ^ (e + i) ≤ 20 ^ 10 := Nat.le_trans x1 (Nat.pow_le_pow_right (by omega) (by omega))
      have m1 : bin m i * o ^ (e + i) ≤ 252 * 20 ^ 10 := Nat.mul_le_mul b1 x0
      have m2 : bin m i * o ^ (e + i) * (G - o) ^ (n - (e + i)) ≤ 252 * 20 ^ 10 := by
        rw [Nat.mul_assoc]; exact Nat.mul_le_mul b1 x3
      have m3 : bin m i * o ^ (e + i) * (G - o) ^ (n - (e + i)) * shw G rows c (e + i) ≤ 252 * 20 ^ 10 * 20 := Nat.mul_le_mul m2 s1
      have hset : ((List.range (n + 1)).map (part i)).set (e + i) (bin m i * o ^ (e + i) * (G - o) ^ (n - (e + i)) * shw G rows c (e + i)) = (List.range (n + 1)).map (part (i + 1)) := by
        apply map_set
        intro j
        simp only [part]
        by_cases q : j = e + i
        · subst q
          rw [if_pos (by omega), if_pos rfl]
          unfold wt
          rw [if_pos (by omega), show e + i - e = i from by omega]
        · rw [if_neg q]
          by_cases q2 : j < e + i
          · rw [if_pos (by omega), if_pos q2]
          · rw [if_neg (by omega), if_neg q2]
      have c1 : ((bin m i : Nat) : Int) * ((o ^ (e + i) : Nat) : Int) = ((bin m i * o ^ (e + i) : Nat) : Int) := (Int.natCast_mul _ _).symm
      have c2 : ((bin m i * o ^ (e + i) : Nat) : Int) * (((G - o) ^ (n - (e + i)) : Nat) : Int) = ((bin m i * o ^ (e + i) * (G - o) ^ (n - (e + i)) : Nat) : Int) := (Int.natCast_mul _ _).symm
      have c3 : ((bin m i * o ^ (e + i) * (G - o) ^ (n - (e + i)) : Nat) : Int) * (shw G rows c (e + i) : Nat) = ((bin m i * o ^ (e + i) * (G - o) ^ (n - (e + i)) * shw G rows c (e + i) : Nat) : Int) := (Int.natCast_mul _ _).symm
      have hout2 := hout.set (e + i) (bin m i * o ^ (e + i) * (G - o) ^ (n - (e + i)) * shw G rows c (e + i))
      rw [hset] at hout2
      have hst := bin_step m (by omega) i (by omega)
      have hmi : i ≤ m := by omega
      have c4 : ((bin m i : Nat) : Int) * ((n : Int) - z - e - i) = ((bin m i * (m - i) : Nat) : Int) := by
        rw [Int.natCast_mul]; congr 1; omega
      have c5 : (((bin m i * (m - i) : Nat) : Int)).tdiv ((i : Int) + 1) = ((bin m (i + 1) : Nat) : Int) := by
        rw [hst, Int.tdiv_eq_ediv_of_nonneg (by omega)]; rfl
      have b2 : bin m i * (m - i) ≤ 252 * 10 := Nat.mul_le_mul b1 (by omega)
      have b3 := bin_le m (by omega) (i + 1) (by omega)
      have a1 : (G : Int) - o = ((G - o : Nat) : Int) := by omega
      have a2 : (n : Int) - ((e : Int) + i) = ((n - (e + i) : Nat) : Int) := by omega
      have a3 : (e : Int) + i = ((e + i : Nat) : Int) := by omega
      obtain ⟨r, r1, r2⟩ := ih (i + 1) ((i : Int) + 1) ((((bin m i : Nat) : Int) * ((n : Int) - z - e - i)).tdiv ((i : Int) + 1)) (out.set ((e : Int) + i) (.int ((((bin m i : Nat) : Int) * ((o ^ (e + i) : Nat) : Int)) * (((G - o) ^ (n - (e + i)) : Nat) : Int) * (shw G rows c (e + i) : Nat)))) (by omega) (by omega) (by rw [c4, c5]) (by rw [c1, c2, c3, a3]; exact hout2)
      refine ⟨r, r1, Comes.step progOk lift_weights.p1 [.int (o ^ (e + i) : Nat), .int ((G - o) ^ (n - (e + i)) : Nat), .int (shw G rows c (e + i))] ?_ r2⟩
      simp only [EvOk, E.b, E.i, E.v, Env.ext, List.map_cons, List.map_nil, List.cons_append, List.nil_append, List.append_nil, List.getD_cons_zero, List.getD_cons_succ, toI_int, leB_iff, ltB_iff, eqB_not, Bool.not_eq_true', Bool.and_eq_true, e0, e3, ez, ee, l0, l1, l2, l3, and_true, a1, a2, c4, c5, c1, c2, c3, lo]
      refine ⟨by omega, by omega, by omega, by omega, by rw [a3]; exact p1, ?_, p2, ?_, by rw [a3]; exact p3, ?_, by omega, by omega, by omega, ?_, by omega, by omega, ?_, by omega⟩
      · generalize bin m i * o ^ (e + i) = Y at *; omega
      · generalize bin m i * o ^ (e + i) * (G - o) ^ (n - (e + i)) = Y at *; omega
      · generalize bin m i * o ^ (e + i) * (G - o) ^ (n - (e + i)) * shw G rows c (e + i) = Y at *; omega
      · generalize bin m i * (m - i) = Y at *; omega
      · omega
  obtain ⟨r, r1, r2⟩ := loop (m + 1) 0 0 1 (V.rep ((n : Int) + 1) (.int 0)) (by omega) rfl (by simp [bin]) (by
    have := Ints.rep (n + 1) 0
    rw [show List.replicate (n + 1) 0 = (List.range (n + 1)).map (part 0) from ?_] at this
    · exact this
    · apply List.ext_getElem?
      intro j
      by_cases hj : j < n + 1
      · simp [hj, part]
        intro h; unfold wt; rw [if_neg (by omega)]
      · simp [hj])
  refine ⟨r, r1, Fn.of (C := lift_weights.K) lift_weights.b (Comes.step progOk lift_weights.p0 [] ?_ r2)⟩
  simp only [EvOk, E.b, E.i, E.v, Env.ext, List.append_nil, List.getD_cons_zero, List.getD_cons_succ, leB_iff, Bool.and_eq_true, e0, ez, ee, l1, and_true]
  omega
end X
namespace X
open Go Go.Abs Go.Sym
set_option linter.unusedVariables false
set_option linter.unusedSimpArgs false

theorem evL : (∀ {α β : Type} {f : α → β} {a : α} {l : List α}, List.map f (a :: l) = f a :: List.map f l) ∧ (∀ {α β : Type} {f : α → β}, List.map f [] = []) ∧ (∀ {α : Type} {a : α} {k l : List α}, (a :: k) ++ l = a :: (k ++ l)) ∧ (∀ {α : Type} (l : List α), [] ++ l = l) ∧ (∀ {α : Type} (l : List α), l ++ [] = l) ∧ (∀ {α : Type} {x d : α} {xs : List α}, (x :: xs).getD 0 d = x) ∧ (∀ {α : Type} {x d : α} {xs : List α} {n : Nat}, (x :: xs).getD (n + 1) d = xs.getD n d) ∧ (∀ z : Int, (V.int z).toI = z) ∧ (∀ b : Bool, (V.bool b).toB = b) ∧ (∀ {a b : Int}, ltB a b = true ↔ a < b) ∧ (∀ {a b : Int}, leB a b = true ↔ a ≤ b) ∧ (∀ {a b : Int}, eqB a b = true ↔ a = b) ∧ (∀ {a b : Int}, eqB a b = false ↔ ¬ a = b) ∧ (∀ {a b : Int}, ltB a b = false ↔ b ≤ a) ∧ (∀ {a b : Int}, leB a b = false ↔ b < a) ∧ (∀ b : Bool, ((!b) = true) = (b = false)) ∧ (∀ b : Bool, ((!b) = false) = (b = true)) ∧ (∀ b : Bool, (!!b) = b) ∧ (∀ a b : Bool, ((a && b) = true) = (a = true ∧ b = true)) ∧ (∀ p : Prop, (p ∧ True) = p) ∧ (∀ p : Prop, (True ∧ p) = p) :=
  ⟨by simp, by simp, by simp, by simp, by simp, by simp, by simp, by simp [V.toI], by simp [V.toB], ltB_iff, leB_iff, eqB_iff, eqB_not, ltB_not, leB_not, by simp, by simp, by simp, by simp, by simp, by simp⟩
/-- conditions, worked out -/

def qn (n d : Nat) : V := .list [.int n, .int d]
def can (a b : Nat) : V := qn (a / a.gcd b) (b / a.gcd b)
end X
namespace X
open Go Go.Abs Go.Sym
set_option linter.unusedVariables false
set_option linter.unusedSimpArgs false

theorem can_eq {a b c d : Nat} (hb : 0 < b) (hd : 0 < d) (h : a * d = c * b) : can a b = can c d := by
  have hg : 0 < a.gcd b := Nat.gcd_pos_of_pos_right _ hb
  have hh : 0 < c.gcd d := Nat.gcd_pos_of_pos_right _ hd
  obtain ⟨a', ha⟩ := Nat.gcd_dvd_left a b
  obtain ⟨b', hb'⟩ := Nat.gcd_dvd_right a b
  obtain ⟨c', hc⟩ := Nat.gcd_dvd_left c d
  obtain ⟨d', hd'⟩ := Nat.gcd_dvd_right c d
  have q1 : a / a.gcd b = a' := Nat.div_eq_of_eq_mul_right hg ha
  have q2 : b / a.gcd b = b' := Nat.div_eq_of_eq_mul_right hg hb'
  have q3 : c / c.gcd d = c' := Nat.div_eq_of_eq_mul_right hh hc
  have q4 : d / c.gcd d = d' := Nat.div_eq_of_eq_mul_right hh hd'
  have cop1 : Nat.Coprime a' b' := by
    have := Nat.coprime_div_gcd_div_gcd (m := a) (n := b) hg
    rwa [q1, q2] at this
  have cop2 : Nat.Coprime c' d' := by
    have := Nat.coprime_div_gcd_div_gcd (m := c) (n := d) hh
    rwa [q3, q4] at this
  have hcross : a' * d' = c' * b' := by
    have h1 : a.gcd b * a' * (c.gcd d * d') = c.gcd d * c' * (a.gcd b * b') := by rw [← ha, ← hb', ← hc, ← hd']; exact h
    have h2 : (a.gcd b * c.gcd d) * (a' * d') = (a.gcd b * c.gcd d) * (c' * b') := by
      calc (a.gcd b * c.gcd d) * (a' * d') = a.gcd b * a' * (c.gcd d * d') := by ac_rfl
        _ = c.gcd d * c' * (a.gcd b * b') := h1
        _ = (a.gcd b * c.gcd d) * (c' * b') := by ac_rfl
    exact Nat.eq_of_mul_eq_mul_left (Nat.mul_pos hg hh) h2
  have hb0 : 0 < b' := Nat.pos_of_ne_zero fun q => by subst q; omega
  have hd0 : 0 < d' := Nat.pos_of_ne_zero fun q => by subst q; omega
  have x1 : b' ∣ d' := cop1.symm.dvd_of_dvd_mul_left (hcross ▸ Nat.dvd_mul_left b' c')
  have x2 : d' ∣ b' := cop2.symm.dvd_of_dvd_mul_left (hcross ▸ Nat.dvd_mul_left d' a')
  have hbd : b' = d' := Nat.dvd_antisymm x1 x2
  have hac : a' = c' := by
    rw [hbd] at hcross
    exact Nat.eq_of_mul_eq_mul_right hd0 hcross
  unfold can
  rw [q1, q2, q3, q4, hbd, hac]
theorem of_can {a b : Nat} (ha : a ≤ big) (hb : b ≤ big) (b0 : 0 < b) : Fn prog ref01_Of.f [.int a, .int b] (can a b) := by
  unfold big at ha hb
  have := Of_spec (n := a) (d := b) (by omega) (by omega) (by omega) (by omega) (by omega)
  unfold ofQ at this
  simp only [Int.natAbs_natCast] at this
  rw [if_pos ⟨by have := Nat.div_le_self a (a.gcd b); unfold big; omega, by have := Nat.div_le_self b (a.gcd b); unfold big; omega⟩] at this
  have hn : negQ a b = false := by
    have h1 : decide ((a : Int) < 0) = false := by simp
    have h2 : decide ((b : Int) < 0) = false := by simp
    unfold negQ; rw [h1, h2]; rfl
  rw [hn] at this
  exact this
end X
namespace X
open Go Go.Abs Go.Sym
set_option linter.unusedVariables false
set_option linter.unusedSimpArgs false

def Qs (r : V) (l : List V) : Prop := r.els = l
theorem shared_spec {a : V} {l : List Nat} (ha : Ints a l) (hl : l.length ≤ 1000000000) (hs : l.sum ≤ big) : ∃ r, Fn prog lift_shared.f [a] r ∧ (if l.sum = 0 then r = .nil else r.els = l.map (fun x => can x l.sum) ∧ (0 < l.length → ∃ k, r = .list k)) := by
  have la := ha.len
  have hbig : big = 4611686018427387903 := rfl
  -- the second loop
  have second : l.sum ≠ 0 → ∀ (t i : Nat) (i' w : Int) (out : V), t + i = l.length → i' = i → out.els = (l.take i).map (fun x => can x l.sum) → (0 < i → ∃ k, out = .list k) → ∃ r, (r.els = l.map (fun x => can x l.sum) ∧ (0 < l.length → ∃ k, r = .list k)) ∧ Comes lift_shared.K lift_shared.f lift_shared.s2 ⟨[((l.sum : Nat) : Int), w, i'], [], [a, out]⟩ r := by
    intro h0 t
    induction t with
    | zero =>
      intro i i' w out ht hi hout hk
      have : i = l.length := by omega
      subst this hi
      rw [List.take_length] at hout
      refine ⟨out, ⟨hout, hk⟩, Comes.last progOk lift_shared.p5 [] ?_ ?_⟩
      · simp only [EvOk, E.b, E.i, E.v, Env.ext, evL]; omega
      · simp only [EvOk, E.b, E.i, E.v, Env.ext, evL]
    | succ t ih =>
      intro i i' w out ht hi hout hk
      subst hi
      obtain ⟨d, hd⟩ : ∃ e, l[i]? = some e := ⟨_, List.getElem?_eq_getElem (by omega)⟩
      have gd := ha.get hd
      have dl : d ≤ l.sum := le_sum (List.mem_of_getElem? hd)
      have mk := Make_spec (n := d) (d := l.sum) (by omega) (by omega) hs
      have lo : out.len = i := by
        unfold V.len; rw [hout]; simp; omega
      obtain ⟨r, r1, r2⟩ := ih (i + 1) ((i : Int) + 1) w (out.snoc (can d l.sum)) (by omega) (by omega) (by
        rw [List.take_add_one, hd]
        simp [V.snoc, show ∀ l, (V.list l).els = l from fun _ => rfl, hout]) (fun _ => ⟨_, rfl⟩)
      refine ⟨r, r1, Comes.step progOk lift_shared.p4 [.list [can d l.sum, .int 0]] ?_ r2⟩
      simp only [EvOk, E.b, E.i, E.v, Env.ext, evL]
      rw [gd, lo]
      refine ⟨by omega, by omega, mk, by omega, by omega⟩
  have first : ∀ (t i : Nat) (i' s : Int), t + i = l.length → i' = i → s = ((l.take i).sum : Nat) → ∃ r, (if l.sum = 0 then r = .nil else r.els = l.map (fun x => can x l.sum) ∧ (0 < l.length → ∃ k, r = .list k)) ∧ Comes lift_shared.K lift_shared.f lift_shared.s1 ⟨[s, i'], [], [a]⟩ r := by
    intro t
    induction t with
    | zero =>
      intro i i' s ht hi hss
      have : i = l.length := by omega
      subst this hi hss
      rw [List.take_length]
      by_cases h0 : l.sum = 0
      · refine ⟨.nil, by rw [if_pos h0], Comes.last progOk lift_shared.p2 [] ?_ ?_⟩
        · simp only [EvOk, E.b, E.i, E.v, Env.ext, evL]; omega
        · simp only [EvOk, E.b, E.i, E.v, Env.ext, evL]
      · obtain ⟨r, r1, r2⟩ := second h0 l.length 0 0 (l.length : Int) .nil (by omega) rfl (by simp [V.els]) (by omega)
        refine ⟨r, by rw [if_neg h0]; exact r1, Comes.step progOk lift_shared.p3 [] ?_ r2⟩
        simp only [EvOk, E.b, E.i, E.v, Env.ext, evL]; omega
    | succ t ih =>
      intro i i' s ht hi hss
      subst hi hss
      obtain ⟨d, hd⟩ : ∃ e, l[i]? = some e := ⟨_, List.getElem?_eq_getElem (by omega)⟩
      have gd := ha.get hd
      have h1 := sum_take l i d hd
      have h2 := take_sum_le l (i + 1)
      obtain ⟨r, r1, r2⟩ := ih (i + 1) ((i : Int) + 1) (((l.take i).sum : Nat) + (a.get (i : Int)).toI) (by omega) (by omega) (by rw [gd]; omega)
      refine ⟨r, r1, Comes.step progOk lift_shared.p1 [] ?_ r2⟩
      simp only [EvOk, E.b, E.i, E.v, Env.ext, evL]
      rw [gd]
      omega
  obtain ⟨r, r1, r2⟩ := first l.length 0 0 0 (by omega) rfl rfl
  exact ⟨r, Fn.of (C := lift_shared.K) lift_shared.b (Comes.step progOk lift_shared.p0 [] trivial r2), r1⟩

theorem wt_le {R : V} {G n o k : Nat} {rows : List (List Nat)} (M : LMod R G n o k rows) (c : Int) {e m : Nat} (h : e + m ≤ n) (j : Nat) : wt G n o rows c e m j ≤ 252 * 20 ^ 10 * 20 := by
  unfold wt
  split
  · rename_i hj
    have hG := M.g2
    have hn := M.n2
    have ho := M.o1
    have s1 := shw_le M c j
    have b1 := bin_le m (by omega) (j - e) (by omega)
    have x1 : o ^ j ≤ 20 ^ j := Nat.pow_le_pow_left (by omega) _
    have x2 : (G - o) ^ (n - j) ≤ 20 ^ (n - j) := Nat.pow_le_pow_left (by omega) _
    have x3 : o ^ j * (G - o) ^ (n - j) ≤ 20 ^ 10 := by
      refine Nat.le_trans (Nat.mul_le_mul x1 x2) ?_
      rw [← Nat.pow_add]
      exact Nat.pow_le_pow_right (by omega) (by omega)
    refine Nat.mul_le_mul ?_ s1
    rw [Nat.mul_assoc]; exact Nat.mul_le_mul b1 x3
  · omega
theorem sum_map_le (l : List Nat) (f : Nat → Nat) (b : Nat) (h : ∀ x, f x ≤ b) : (l.map f).sum ≤ l.length * b := by
  induction l with
  | nil => simp
  | cons a l ih =>
    have := h a
    simp only [List.map_cons, List.sum_cons, List.length_cons, Nat.add_mul, Nat.one_mul]
    omega
theorem wts_sum_le {R : V} {G n o k : Nat} {rows : List (List Nat)} (M : LMod R G n o k rows) (c : Int) {e m : Nat} (h : e + m ≤ n) : (wts G n o rows c e m).sum ≤ 11 * (252 * 20 ^ 10 * 20) := by
  have h1 := sum_map_le (List.range (n + 1)) (wt G n o rows c e m) (252 * 20 ^ 10 * 20) (wt_le M c h)
  have h2 : (List.range (n + 1)).length * (252 * 20 ^ 10 * 20) ≤ 11 * (252 * 20 ^ 10 * 20) := Nat.mul_le_mul_right _ (by have := M.n2; simp; omega)
  exact Nat.le_trans h1 h2
theorem wts_len (G n o : Nat) (rows : List (List Nat)) (c : Int) (e m : Nat) : (wts G n o rows c e m).length = n + 1 := by simp [wts]

end X
namespace X
open Go Go.Abs Go.Sym
set_option linter.unusedVariables false
set_option linter.unusedSimpArgs false

theorem Next_spec {R : V} {G n o k : Nat} {rows : List (List Nat)} (M : LMod R G n o k rows) {z e m : Nat} {c : Int} (h1 : z + e + m = n) (h2 : -1 ≤ c) (h3 : c < k) :
    Fn prog lift_Next.f [lv G n o R, .int z, .int e, .int c] (if m = 0 then .list [qn 0 0, .int 4] else if (wts G n o rows c e m).sum = 0 then .list [qn 0 0, .int 7] else .list [can (wts G n o rows c (e + 1) (m - 1)).sum (wts G n o rows c e m).sum, .int 0]) := by
  have hc := count_spec M (z := z) (e := e) (c := c) (by omega) h2 h3
  have l1 : ((lv G n o R).get 1).toI = n := rfl
  by_cases hm : m = 0
  · rw [if_pos hm]
    refine Fn.of (C := lift_Next.K) lift_Next.b (Comes.last progOk lift_Next.p1 [.list [cv (lv G n o R) z e c, .int 0]] ?_ rfl)
    simp only [EvOk, E.b, E.i, E.v, Env.ext, evL]
    simp only [l1]
    exact ⟨hc, rfl, by have := M.n2; omega, by omega⟩
  · rw [if_neg hm]
    obtain ⟨w, w1, w2⟩ := weights_spec M h1 h3
    obtain ⟨w', w3, w4⟩ := weights_spec M (z := z) (e := e + 1) (m := m - 1) (c := c) (by omega) h3
    have hsum := wts_sum_le M c (e := e) (m := m) (by omega)
    have hsum' := wts_sum_le M c (e := e + 1) (m := m - 1) (by omega)
    have hb : 11 * (252 * 20 ^ 10 * 20) ≤ big := by decide
    have hbig : big = 4611686018427387903 := rfl
    have hl := wts_len G n o rows c e m
    have hl' := wts_len G n o rows c (e + 1) (m - 1)
    have lw := w1.len
    have lw' := w3.len
    have hn := M.n2
    generalize wts G n o rows c e m = W at *
    generalize wts G n o rows c (e + 1) (m - 1) = W' at *
    generalize 11 * (252 * 20 ^ 10 * 20) = BB at *
    -- the second sum
    have second : W.sum ≠ 0 → ∀ (t i : Nat) (i' s y : Int), t + i = W'.length → i' = i → s = ((W'.take i).sum : Nat) → Comes lift_Next.K lift_Next.f lift_Next.s2 ⟨[((W.sum : Nat) : Int), y, s, i'], [], [lv G n o R, .int z, .int e, .int c, .list [cv (lv G n o R) z e c, .int 0], w, w']⟩ (.list [can W'.sum W.sum, .int 0]) := by
      intro h0 t
      induction t with
      | zero =>
        intro i i' s y ht hi hs
        have : i = W'.length := by omega
        subst this hi hs
        rw [List.take_length]
        have mk := Make_spec (n := W'.sum) (d := W.sum) (by omega) (by omega) (by omega)
        refine Comes.last progOk lift_Next.p7 [.list [can W'.sum W.sum, .int 0]] ?_ rfl
        simp only [EvOk, E.b, E.i, E.v, Env.ext, evL]
        exact ⟨by omega, mk⟩
      | succ t ih =>
        intro i i' s y ht hi hs
        subst hi hs
        obtain ⟨d, hd⟩ : ∃ e, W'[i]? = some e := ⟨_, List.getElem?_eq_getElem (by omega)⟩
        have gd := w3.get hd
        have s1 := sum_take W' i d hd
        have s2 := take_sum_le W' (i + 1)
        refine Comes.step progOk lift_Next.p6 [] ?_ (ih (i + 1) ((i : Int) + 1) (((W'.take i).sum : Nat) + (w'.get (i : Int)).toI) y (by omega) (by omega) (by rw [gd]; omega))
        simp only [EvOk, E.b, E.i, E.v, Env.ext, evL]
        rw [gd]
        omega
    have first : ∀ (t i : Nat) (i' s : Int) (v5 : V), t + i = W.length → i' = i → s = ((W.take i).sum : Nat) → Comes lift_Next.K lift_Next.f lift_Next.s1 ⟨[s, i'], [], [lv G n o R, .int z, .int e, .int c, .list [cv (lv G n o R) z e c, .int 0], w]⟩ (if W.sum = 0 then .list [qn 0 0, .int 7] else .list [can W'.sum W.sum, .int 0]) := by
      intro t
      induction t with
      | zero =>
        intro i i' s v5 ht hi hs
        have : i = W.length := by omega
        subst this hi hs
        rw [List.take_length]
        by_cases h0 : W.sum = 0
        · rw [if_pos h0]
          refine Comes.last progOk lift_Next.p4 [] ?_ rfl
          simp only [EvOk, E.b, E.i, E.v, Env.ext, evL]; omega
        · rw [if_neg h0]
          refine Comes.step progOk lift_Next.p5 [w'] ?_ (second h0 W'.length 0 0 0 _ (by omega) rfl rfl)
          simp only [EvOk, E.b, E.i, E.v, Env.ext, evL]
          refine ⟨by omega, by omega, ?_, ?_⟩
          · show -9223372036854775808 ≤ (e : Int) + 1 ∧ (e : Int) + 1 ≤ 9223372036854775807
            omega
          · exact w4
      | succ t ih =>
        intro i i' s v5 ht hi hs
        subst hi hs
        obtain ⟨d, hd⟩ : ∃ e, W[i]? = some e := ⟨_, List.getElem?_eq_getElem (by omega)⟩
        have gd := w1.get hd
        have s1 := sum_take W i d hd
        have s2 := take_sum_le W (i + 1)
        refine Comes.step progOk lift_Next.p3 [] ?_ (ih (i + 1) ((i : Int) + 1) (((W.take i).sum : Nat) + (w.get (i : Int)).toI) v5 (by omega) (by omega) (by rw [gd]; omega))
        simp only [EvOk, E.b, E.i, E.v, Env.ext, evL]
        rw [gd]
        omega
    refine Fn.of (C := lift_Next.K) lift_Next.b (Comes.step progOk lift_Next.p2 [.list [cv (lv G n o R) z e c, .int 0], w] ?_ (first W.length 0 0 0 w (by omega) rfl rfl))
    simp only [EvOk, E.b, E.i, E.v, Env.ext, evL]
    simp only [l1]
    exact ⟨hc, rfl, by omega, by omega, w2⟩

theorem wrap_u64 (x : Int) : 0 ≤ IntKind.wrap .u64 x ∧ IntKind.wrap .u64 x < 18446744073709551616 := by
  simp [IntKind.wrap, IntKind.signed, IntKind.bits]
  omega
theorem KnownOf_spec {R : V} {G n o k : Nat} {rows : List (List Nat)} (M : LMod R G n o k rows) (a b d : Int) :
    ∃ (z e : Nat) (c : Int), z + e ≤ n ∧ -1 ≤ c ∧ c < k ∧ Fn prog KnownOf.f [.list [.int a, .int b, .int d], lv G n o R] (.list [.int z, .int e, .int c]) := by
  have l1 : ((lv G n o R).get 1).toI = n := rfl
  have l3 : (lv G n o R).get 3 = R := rfl
  have hR : R.len = (n + 1 : Int) := by simp [V.len, M.rlen]
  obtain ⟨r0, hr0⟩ : ∃ r, rows[0]? = some r := ⟨_, List.getElem?_eq_getElem (by have := M.len; omega)⟩
  have row0 := M.row 0 r0 hr0
  have l0 := row0.1.len
  have l0' : (R.get 0).len = k := by rw [row0.2.1] at l0; exact l0
  have g0 : ((V.list [.int a, .int b, .int d]).get 0).toI = a := rfl
  have g1 : ((V.list [.int a, .int b, .int d]).get 1).toI = b := rfl
  have g2 : ((V.list [.int a, .int b, .int d]).get 2).toI = d := rfl
  have hn := M.n2
  have hk := M.k2
  have a1 := wrap_u64 a
  have b1 := wrap_u64 b
  have d1 := wrap_u64 d
  generalize ha : IntKind.wrap .u64 a = A at *
  generalize hb : IntKind.wrap .u64 b = B at *
  generalize hd : IntKind.wrap .u64 d = D at *
  have tm : ∀ (x y : Int), 0 ≤ x → 0 < y → 0 ≤ x.tmod y ∧ x.tmod y < y := fun x y h1 h2 => ⟨Int.tmod_nonneg _ h1, Int.tmod_lt_of_pos _ h2⟩
  obtain ⟨p1, p2⟩ := tm A ((n : Int) + 1) a1.1 (by omega)
  obtain ⟨z, hz⟩ : ∃ z : Nat, A.tmod ((n : Int) + 1) = z := ⟨(A.tmod ((n : Int) + 1)).toNat, by omega⟩
  obtain ⟨p3, p4⟩ := tm B ((n : Int) - A.tmod ((n : Int) + 1) + 1) b1.1 (by omega)
  obtain ⟨e, he⟩ : ∃ z : Nat, B.tmod ((n : Int) - A.tmod ((n : Int) + 1) + 1) = z := ⟨(B.tmod ((n : Int) - A.tmod ((n : Int) + 1) + 1)).toNat, by omega⟩
  obtain ⟨p5, p6⟩ := tm D ((k : Int) + 1) d1.1 (by omega)
  refine ⟨z, e, D.tmod ((k : Int) + 1) - 1, by omega, by omega, by omega, Fn.of (C := KnownOf.K) KnownOf.b (Comes.last progOk KnownOf.p0 [] ?_ ?_)⟩
  · simp only [EvOk, E.b, E.i, E.v, Env.ext, evL]
    simp only [l1, l3, l0', g0, g1, g2, ha, hb, hd, hR]
    generalize A.tmod ((n : Int) + 1) = Z at *
    generalize B.tmod ((n : Int) - Z + 1) = Q at *
    generalize D.tmod ((k : Int) + 1) = C at *
    omega
  · simp only [E.i, E.v, Env.ext, List.append_nil, List.getD_cons_zero, List.getD_cons_succ, l1, l3, l0', g0, g1, g2, ha, hb, hd, hz, he]
    rw [← hz, he]
    rfl
end X
namespace X
open Go Go.Abs Go.Sym
set_option linter.unusedVariables false
set_option linter.unusedSimpArgs false

theorem Split_spec {a : V} {l : List Nat} (ha : Ints a l) (hl : ∀ x ∈ l, x ≤ 255) {n G : Nat} (n1 : 1 ≤ n) (n2 : n ≤ 1000) (hG : G ≤ 1000) : ∃ r L, Ints r L ∧ L.length = n ∧ L.sum = G ∧ Fn prog Split.f [.int n, .int G, a] r := by
  have la := ha.len
  have loop : ∀ (t i left : Nat) (i' left' : Int) (out : V) (L : List Nat), t + i = n → i' = i → left' = left → Ints out L → L.length = i → L.sum + left = G → (t = 0 → left = 0) → ∃ r, (∃ L, Ints r L ∧ L.length = n ∧ L.sum = G) ∧ Comes Split.K Split.f Split.s1 ⟨[left', i'], [], [.int n, .int G, a, out]⟩ r := by
    intro t
    induction t with
    | zero =>
      intro i left i' left' out L ht hi hle hout hL hs h0
      subst hi hle
      refine ⟨out, ⟨L, hout, by omega, by have := h0 rfl; omega⟩, Comes.last progOk Split.p4 [] ?_ ?_⟩
      · simp only [EvOk, E.b, E.i, E.v, Env.ext, evL]; omega
      · simp only [EvOk, E.b, E.i, E.v, Env.ext, evL]
    | succ t ih =>
      intro i left i' left' out L ht hi hle hout hL hs h0
      subst hi hle
      have lo := hout.len
      by_cases h1 : i < n - 1
      · by_cases h2 : i < l.length
        · obtain ⟨d, hd⟩ : ∃ e, l[i]? = some e := ⟨_, List.getElem?_eq_getElem h2⟩
          have gd := ha.get hd
          have hd255 := hl d (List.mem_of_getElem? hd)
          have hm : ((d : Int)).tmod ((left : Int) + 1) = ((d % (left + 1) : Nat) : Int) := by rw [Int.tmod_eq_emod_of_nonneg (by omega)]; rfl
          have hlt : d % (left + 1) < left + 1 := Nat.mod_lt _ (by omega)
          obtain ⟨r, r1, r2⟩ := ih (i + 1) (left - d % (left + 1)) ((i : Int) + 1) ((left : Int) - ((a.get (i : Int)).toI).tmod ((left : Int) + 1)) (out.snoc (.int (((a.get (i : Int)).toI).tmod ((left : Int) + 1)))) (L ++ [d % (left + 1)]) (by omega) (by omega) (by rw [gd, hm]; omega) (by rw [gd, hm]; exact hout.snoc _) (by simp [hL]) (by simp; omega) (by omega)
          refine ⟨r, r1, Comes.step progOk Split.p1 [] ?_ r2⟩
          simp only [EvOk, E.b, E.i, E.v, Env.ext, evL]
          rw [gd, hm]
          omega
        · obtain ⟨r, r1, r2⟩ := ih (i + 1) left ((i : Int) + 1) ((left : Int) - 0) (out.snoc (.int 0)) (L ++ [0]) (by omega) (by omega) (by omega) (hout.snoc 0) (by simp [hL]) (by simp; omega) (by omega)
          refine ⟨r, r1, Comes.step progOk Split.p2 [] ?_ r2⟩
          simp only [EvOk, E.b, E.i, E.v, Env.ext, evL]
          omega
      · obtain ⟨r, r1, r2⟩ := ih (i + 1) 0 ((i : Int) + 1) ((left : Int) - left) (out.snoc (.int left)) (L ++ [left]) (by omega) (by omega) (by omega) (hout.snoc _) (by simp [hL]) (by simp; omega) (by omega)
        refine ⟨r, r1, Comes.step progOk Split.p3 [] ?_ r2⟩
        simp only [EvOk, E.b, E.i, E.v, Env.ext, evL]
        omega
  obtain ⟨r, ⟨L, h1, h2, h3⟩, r2⟩ := loop n 0 G 0 G .nil [] (by omega) rfl rfl ints_nil rfl (by simp) (by omega)
  exact ⟨r, L, h1, h2, h3, Fn.of (C := Split.K) Split.b (Comes.step progOk Split.p0 [] trivial r2)⟩

theorem snoc_get_lt {R x : V} {j : Nat} (h : j < R.els.length) : (R.snoc x).get (j : Int) = R.get (j : Int) := by
  simp [V.snoc, V.get, show ∀ l, (V.list l).els = l from fun _ => rfl, List.getElem?_append_left h]
theorem snoc_get_eq {R x : V} : (R.snoc x).get (R.els.length : Int) = x := by
  simp [V.snoc, V.get, show ∀ l, (V.list l).els = l from fun _ => rfl]
theorem snoc_els {R x : V} : (R.snoc x).els.length = R.els.length + 1 := by
  simp [V.snoc, show ∀ l, (V.list l).els = l from fun _ => rfl]

end X
namespace X
open Go Go.Abs Go.Sym
set_option linter.unusedVariables false
set_option linter.unusedSimpArgs false

theorem sum_map_add (l : List Nat) (f g : Nat → Nat) : (l.map fun x => f x + g x).sum = (l.map f).sum + (l.map g).sum := by
  induction l with
  | nil => rfl
  | cons a l ih => simp only [List.map_cons, List.sum_cons, ih]; omega
theorem sum_map_mul (l : List Nat) (c : Nat) (f : Nat → Nat) : (l.map fun x => c * f x).sum = c * (l.map f).sum := by
  induction l with
  | nil => rfl
  | cons a l ih => simp only [List.map_cons, List.sum_cons, ih, Nat.mul_add]
def tls (G n o : Nat) (rows : List (List Nat)) (c : Int) (e m : Nat) : List Nat := (List.range (n + 1)).map fun j => j * wt G n o rows c e m j
end X
/- Lifted models of all kinds: valid or not. -/
namespace X
open Go Go.Abs Go.Sym
set_option linter.unusedVariables false
set_option linter.unusedSimpArgs false

/-- A list of integers. -/
def Zs (x : V) (l : List Int) : Prop := x.els = l.map V.int
theorem Zs.len {a : V} {l : List Int} (h : Zs a l) : a.len = l.length := by unfold Zs at h; simp [V.len, h]
theorem Zs.get {a : V} {l : List Int} (h : Zs a l) {i : Nat} {d : Int} (hd : l[i]? = some d) : (a.get (i : Int)).toI = d := by
  unfold Zs at h; simp [V.get, h, hd, V.toI]
theorem Ints.zs {a : V} {l : List Nat} (h : Ints a l) : Zs a (l.map Int.ofNat) := by
  unfold Ints at h; unfold Zs; rw [h, List.map_map]; rfl
/-- Rows of integers. -/
structure Tab (R : V) (rows : List (List Int)) : Prop where
  len : R.els.length = rows.length
  row : ∀ (j : Nat) (r : List Int), rows[j]? = some r → Zs (R.get (j : Int)) r
/-- A lifted model of any kind: with few rows. -/
structure GMod (G C o : Int) (R : V) (rows : List (List Int)) : Prop where
  tab : Tab R rows
  rl : rows.length ≤ 12
  rw : ∀ r ∈ rows, r.length ≤ 6
  c1 : -9223372036854775808 ≤ C
  c2 : C ≤ 9223372036854775807
def gm (G C o : Int) (R : V) : V := .list [.int G, .int C, .int o, R]
/-- What the program looks for in a row. -/
def scan (G : Int) : Int → List Int → Option Int
  | s, [] => some s
  | s, w :: r => if w < 0 ∨ G < w then none else scan G (s + w) r
def vrows (G : Int) (k : Nat) : List (List Int) → Bool
  | [] => true
  | r :: rs => match scan G 0 r with
    | none => false
    | some s => decide (r.length = k) && decide (s = G) && vrows G k rs
def hd (rows : List (List Int)) : Nat := (rows.headD []).length
def okM (G C o : Int) (rows : List (List Int)) : Bool := decide (1 ≤ G ∧ G ≤ 20 ∧ 1 ≤ C ∧ C ≤ 10 ∧ 0 ≤ o ∧ o ≤ G ∧ (rows.length : Int) = C + 1) && (decide (2 ≤ hd rows ∧ hd rows ≤ 4) && vrows G (hd rows) rows)

theorem drop_cons {α : Type} {l : List α} {i : Nat} (h : i < l.length) : l.drop i = l[i] :: l.drop (i + 1) := List.drop_eq_getElem_cons h
end X
namespace X
open Go Go.Abs Go.Sym
set_option linter.unusedVariables false
set_option linter.unusedSimpArgs false

def lscan : Int → List Int → Option Int
  | s, [] => some s
  | s, w :: r => if w < 0 ∨ s < w then none else lscan (s - w) r
def rrows (G : Int) (k : Nat) : List (List Int) → Bool
  | [] => true
  | r :: rs => decide (2 ≤ r.length ∧ r.length ≤ 4 ∧ r.length = k) && (match lscan G r with
    | none => false
    | some s => decide (s = 0) && rrows G k rs)
end X
namespace X
open Go Go.Abs Go.Sym
set_option linter.unusedVariables false
set_option linter.unusedSimpArgs false

/-! ### How many combinations there are -/
def cntF (f : Nat → Bool) : Nat → Nat
  | 0 => 0
  | n + 1 => cntF f n + (if f n then 1 else 0)
def bit (c v : Nat) : Nat := c / 2 ^ v % 2
def pc (c : Nat) : Nat → Nat
  | 0 => 0
  | v + 1 => pc c v + bit c v
def ag (z e c : Nat) : Nat → Bool
  | 0 => true
  | v + 1 => ag z e c v && (if bit c v = 1 then decide (z ≤ v) else decide (v < z) || decide (z + e ≤ v))
def sel (z e v k : Nat) (c : Nat) : Bool := ag z e c v && decide (pc c v = k)
def num (z e v k : Nat) : Nat := cntF (sel z e v k) (2 ^ v)
/-! ### The reference's weights -/
def uw (G n o : Nat) (rows : List (List Nat)) (ch : Int) (k : Nat) : Nat := o ^ k * (G - o) ^ (n - k) * shw G rows ch k
end X
namespace X
open Go Go.Abs Go.Sym
set_option linter.unusedVariables false
set_option linter.unusedSimpArgs false

/-- Evidence that fits. -/
def fitE (C : Int) (rows : List (List Int)) (z e c : Int) : Prop := 0 ≤ z ∧ z ≤ C ∧ 0 ≤ e ∧ e ≤ C - z ∧ -1 ≤ c ∧ c < hd rows
instance (C : Int) (rows : List (List Int)) (z e c : Int) : Decidable (fitE C rows z e c) := by unfold fitE; infer_instance
def code (G C o : Int) (rows : List (List Int)) (z e c : Int) : Int := if okM G C o rows = true then (if fitE C rows z e c then 0 else 2) else 140
def zc : V := .list [.list [.int 0, .int 0, .int 0, .nil], .int 0, .int 0, .int 0]
end X
namespace X
open Go Go.Abs Go.Sym
set_option linter.unusedVariables false
set_option linter.unusedSimpArgs false

theorem els_list (l : List V) : (V.list l).els = l := rfl
theorem app_nil_els (x : V) : (V.app .nil x).els = x.els := by
  unfold V.app
  split
  · rename_i h; rw [h]; rfl
  · rfl
theorem sub_els (x : V) (i j : Int) : (x.sub i j).els = (x.els.take j.toNat).drop i.toNat := by
  unfold V.sub
  split
  · simp [V.els]
  · rfl
theorem get_els {x : V} {i : Nat} (h : i < x.els.length) : x.get (i : Int) = x.els[i] := by simp [V.get, h]
theorem Zs.copy {x : V} {l : List Int} (h : Zs x l) : Zs (V.app .nil x) l := by unfold Zs at *; rw [app_nil_els, h]
theorem Zs.sub {x : V} {l : List Int} (h : Zs x l) (j : Int) : Zs (x.sub 0 j) (l.take j.toNat) := by
  unfold Zs at *; rw [sub_els, h]; simp [List.map_take]
theorem Zs.set {x : V} {l : List Int} (h : Zs x l) (i : Nat) (w : Int) : Zs (x.set (i : Int) (.int w)) (l.set i w) := by
  unfold Zs at *; simp [V.set, els_list, h, List.map_set]
theorem Zs.snoc {x : V} {l : List Int} (h : Zs x l) (w : Int) : Zs (x.snoc (.int w)) (l ++ [w]) := by
  unfold Zs at *; simp [V.snoc, els_list, h]
/-- Rows, one by one. -/
def TabL : List V → List (List Int) → Prop
  | [], [] => True
  | x :: xs, r :: rs => Zs x r ∧ TabL xs rs
  | _, _ => False
theorem TabL.get : ∀ {xs : List V} {rs : List (List Int)}, TabL xs rs → xs.length = rs.length ∧ ∀ (j : Nat) (r : List Int), rs[j]? = some r → ∃ x, xs[j]? = some x ∧ Zs x r
  | [], [], _ => ⟨rfl, fun j r h => by simp at h⟩
  | x :: xs, r :: rs, ⟨h1, h2⟩ => by
    obtain ⟨k1, k2⟩ := TabL.get h2
    refine ⟨by simp [k1], fun j r' h => ?_⟩
    cases j with
    | zero => simp at h; subst h; exact ⟨x, rfl, h1⟩
    | succ j => simpa using k2 j r' (by simpa using h)
  | [], _ :: _, h => h.elim
  | _ :: _, [], h => h.elim
theorem TabL.of : ∀ {xs : List V} {rs : List (List Int)}, xs.length = rs.length → (∀ (j : Nat) (r : List Int), rs[j]? = some r → ∃ x, xs[j]? = some x ∧ Zs x r) → TabL xs rs
  | [], [], _, _ => trivial
  | x :: xs, r :: rs, hl, h => by
    refine ⟨?_, TabL.of (by simpa using hl) fun j r' hj => by simpa using h (j + 1) r' (by simpa using hj)⟩
    obtain ⟨y, e, k⟩ := h 0 r rfl
    simp at e; subst e; exact k
  | [], _ :: _, hl, _ => by simp at hl
  | _ :: _, [], hl, _ => by simp at hl
theorem tab_iff {R : V} {rows : List (List Int)} : Tab R rows ↔ TabL R.els rows := by
  constructor
  · intro h
    refine TabL.of h.len fun j r hj => ?_
    have hlt : j < R.els.length := by rw [h.len]; exact (List.getElem?_eq_some_iff.1 hj).1
    exact ⟨R.els[j], List.getElem?_eq_getElem hlt, by rw [← get_els hlt]; exact h.row j r hj⟩
  · intro h
    obtain ⟨h1, h2⟩ := h.get
    refine ⟨h1, fun j r hj => ?_⟩
    obtain ⟨x, e, k⟩ := h2 j r hj
    have hlt := (List.getElem?_eq_some_iff.1 e).1
    rw [get_els hlt]
    have : R.els[j] = x := by rw [List.getElem?_eq_getElem hlt] at e; simpa using e
    rw [this]; exact k
theorem TabL.snoc : ∀ {xs : List V} {rs : List (List Int)} {x : V} {r : List Int}, TabL xs rs → Zs x r → TabL (xs ++ [x]) (rs ++ [r])
  | [], [], _, _, _, h => ⟨h, trivial⟩
  | _ :: _, _ :: _, _, _, ⟨h1, h2⟩, h => ⟨h1, TabL.snoc h2 h⟩
  | [], _ :: _, _, _, h, _ => h.elim
  | _ :: _, [], _, _, h, _ => h.elim
theorem TabL.set : ∀ {xs : List V} {rs : List (List Int)} {x : V} {r : List Int} (j : Nat), TabL xs rs → Zs x r → TabL (xs.set j x) (rs.set j r)
  | [], [], _, _, j, _, h => trivial
  | _ :: _, _ :: _, _, _, 0, ⟨h1, h2⟩, h => ⟨h, h2⟩
  | _ :: _, _ :: _, _, _, j + 1, ⟨h1, h2⟩, h => ⟨h1, TabL.set j h2 h⟩
  | [], _ :: _, _, _, _, h, _ => h.elim
  | _ :: _, [], _, _, _, h, _ => h.elim
theorem TabL.drop : ∀ {xs : List V} {rs : List (List Int)} (j : Nat), TabL xs rs → TabL (xs.drop j) (rs.drop j)
  | _, _, 0, h => h
  | [], [], _ + 1, _ => trivial
  | _ :: _, _ :: _, j + 1, ⟨_, h2⟩ => TabL.drop j h2
  | [], _ :: _, _ + 1, h => h.elim
  | _ :: _, [], _ + 1, h => h.elim
theorem TabL.take : ∀ {xs : List V} {rs : List (List Int)} (j : Nat), TabL xs rs → TabL (xs.take j) (rs.take j)
  | _, _, 0, h => by simp [TabL]
  | [], [], _ + 1, _ => trivial
  | _ :: _, _ :: _, j + 1, ⟨h1, h2⟩ => ⟨h1, TabL.take j h2⟩
  | [], _ :: _, _ + 1, h => h.elim
  | _ :: _, [], _ + 1, h => h.elim
theorem Tab.snoc {R x : V} {rows : List (List Int)} {r : List Int} (h : Tab R rows) (k : Zs x r) : Tab (R.snoc x) (rows ++ [r]) := tab_iff.2 ((tab_iff.1 h).snoc k)
theorem Tab.set {R x : V} {rows : List (List Int)} {r : List Int} (h : Tab R rows) (j : Nat) (k : Zs x r) : Tab (R.set (j : Int) x) (rows.set j r) := by
  refine tab_iff.2 ?_
  have := (tab_iff.1 h).set j k
  simpa [V.set, els_list] using this
theorem Tab.sub {R : V} {rows : List (List Int)} (h : Tab R rows) (i j : Int) : Tab (R.sub i j) ((rows.take j.toNat).drop i.toNat) := by
  refine tab_iff.2 ?_
  rw [sub_els]
  exact ((tab_iff.1 h).take _).drop _
theorem equalQ_refl (a : V) (h : a.len ≤ 9223372036854775807) : Fn prog equalQ.f [a, a] (.bool true) := by
  have loop : ∀ (t i : Nat) (i' : Int), ((t + i : Nat) : Int) = a.len → i' = i → Comes equalQ.K equalQ.f equalQ.s1 ⟨[i'], [], [a, a]⟩ (.bool true) := by
    intro t
    induction t with
    | zero =>
      intro i i' ht hi
      subst hi
      refine Comes.last progOk equalQ.p4 [] ?_ rfl
      simp only [EvOk, E.b, E.i, E.v, Env.ext, evL]; omega
    | succ t ih =>
      intro i i' ht hi
      subst hi
      refine Comes.step progOk equalQ.p3 [] ?_ (ih (i + 1) ((i : Int) + 1) (by omega) (by omega))
      simp only [EvOk, E.b, E.i, E.v, Env.ext, evL]; omega
  refine Fn.of (C := equalQ.K) equalQ.b (Comes.step progOk equalQ.p1 [] ?_ (loop a.els.length 0 0 (by simp [V.len]) rfl))
  simp only [EvOk, E.b, E.i, E.v, Env.ext, evL]
end X
