/- Texts of the claim: P_watch, P_hshows, P_forward, P_backward, P_hForward, P_hBackward, P_SameTable, P_ref02_Same, P_HiddenTables, Paths, SymClosed, AbsPost, SymLaw, Big, T1, Num1, Num2, Num3, Num4, Num5, Num6, QNum, Tabs, Hid1, Hid2, Hid3, Hid4, Hid5, Hid6, Hid7, Hid8, Hid9, WTt, ParH. -/
import Derived.Test.YtildjgdhdcoojaaDoorZ10
import Derived.Test.YtildjgdhdcoojaaDoorZ07
import Derived.ChangeSame
import Derived.RowKit3
import Derived.Carry
import Derived.Test.YtildjgdhdcoojaaDoorRows
import Derived.WalkKit
set_option linter.unusedVariables false
set_option linter.unusedSimpArgs false
namespace X
open Go Go.Abs Go.Sym
namespace watch
abbrev f : Nat := 47
noncomputable def K : Cfg := ⟨prog, pl, [], [45], []⟩
noncomputable def s0 : SMach := ⟨⟨47, 43, (m (.agg [(.int .i64 (.toI (.get (.vv 0) (.il 0)))), (.pure 3 (.get (.vv 0) (.il 1)) (q 0 1)), (.pure 27 (.get (.vv 0) (.il 2)) (q 0 2)), (.pure 27 (.get (.vv 0) (.il 3)) (q 0 3))]) (l (.pure 3 (.vv 1) (q 1 0))) z z z), [.code (C 47 [])], [], .run, false, none⟩, [], ⟨0, 2, 2, z⟩⟩
noncomputable def s1 : SMach := ⟨⟨47, 43, (n (m (.pure 3 (.vv 1) (q 3 0)) (n (l (.pure 3 (.vv 1) (q 7 0))) z z z) z z z) (m (.addr 0 0) (n (l (.int .i64 (.len (.vv 1)))) z z z) z z z) (n (n (l (.int .i64 (.iv 0))) z z z) z z z) (l (.addr 1 0))), [.code (C 47 [1, 1, 1, 0, 1, 0, 0]), .inLoop (C 47 [1, 1, 1, 0, 1, 0, 0]), .inBlock 0, .code (C 47 [1, 1, 1, 1])], [], .run, false, none⟩, [], ⟨2, 8, 3, (m (.cells [(.int .i64 (.toI (.get (.vv 0) (.il 0)))), (.pure 3 (.get (.vv 0) (.il 1)) (q 4 0)), (.pure 27 (.get (.vv 0) (.il 2)) (q 5 0)), (.pure 27 (.get (.vv 0) (.il 3)) (q 6 0))]) (l (.cells [(.int .i64 (.il 0)), .nils, .nils, .nils, .nils])) z z z)⟩⟩
theorem p0 : last K 47 21 [true] s0 = some ((.snoc (.snoc .emp (.snoc (.snoc .emp (.snoc (.snoc (.snoc (.snoc .emp (.ofI (.il 0))) .nil) .nil) .nil)) .nil)) (.ofI (.il 170))), [.call 45 [(.snoc (.snoc (.snoc (.snoc .emp (.ofI (.toI (.get (.vv 0) (.il 0))))) (.get (.vv 0) (.il 1))) (.get (.vv 0) (.il 2))) (.get (.vv 0) (.il 3)))], .ask (.not (.toB (.vv 2)))]) := by kernel_rfl
theorem p1 : last K 47 35 [false, true] s0 = some ((.snoc (.snoc .emp (.snoc (.snoc .emp (.snoc (.snoc (.snoc (.snoc .emp (.ofI (.il 0))) .nil) .nil) .nil)) .nil)) (.ofI (.il 2))), [.call 45 [(.snoc (.snoc (.snoc (.snoc .emp (.ofI (.toI (.get (.vv 0) (.il 0))))) (.get (.vv 0) (.il 1))) (.get (.vv 0) (.il 2))) (.get (.vv 0) (.il 3)))], .ask (.not (.not (.toB (.vv 2)))), .ask (.lt (.len (.vv 1)) (.il 1))]) := by kernel_rfl
theorem p2 : last K 47 35 [false, false, true] s0 = some ((.snoc (.snoc .emp (.snoc (.snoc .emp (.snoc (.snoc (.snoc (.snoc .emp (.ofI (.il 0))) .nil) .nil) .nil)) .nil)) (.ofI (.il 2))), [.call 45 [(.snoc (.snoc (.snoc (.snoc .emp (.ofI (.toI (.get (.vv 0) (.il 0))))) (.get (.vv 0) (.il 1))) (.get (.vv 0) (.il 2))) (.get (.vv 0) (.il 3)))], .ask (.not (.not (.toB (.vv 2)))), .ask (.not (.lt (.len (.vv 1)) (.il 1))), .ask (.lt (.il 8) (.len (.vv 1)))]) := by kernel_rfl
theorem p3 : stretch K 38 [false, false, false] s0 s1 [] ⟨[(.il 0)], [], [(.vv 0), (.vv 1), (.vv 2)], [(q 0 0), (q 1 0), (q 2 0), (q 1 0), (q 0 1), (q 0 2), (q 0 3), (q 1 0)]⟩ [(0, (some 0)), (1, (some 1))] = some (s1, [.call 45 [(.snoc (.snoc (.snoc (.snoc .emp (.ofI (.toI (.get (.vv 0) (.il 0))))) (.get (.vv 0) (.il 1))) (.get (.vv 0) (.il 2))) (.get (.vv 0) (.il 3)))], .ask (.not (.not (.toB (.vv 2)))), .ask (.not (.lt (.len (.vv 1)) (.il 1))), .ask (.not (.lt (.il 8) (.len (.vv 1))))]) := by kernel_rfl
theorem p4 : last K 47 37 [true, true] s1 = some ((.snoc (.snoc .emp (.snoc (.snoc .emp (.snoc (.snoc (.snoc (.snoc .emp (.ofI (.il 0))) .nil) .nil) .nil)) .nil)) (.ofI (.il 2))), [.ask (.lt (.iv 0) (.len (.vv 1))), .ask (IB (.iv 0) (.vv 1)), .ask (.lt (.toI (.get (.vv 1) (.iv 0))) (.il (-1)))]) := by kernel_rfl
theorem p5 : last K 47 37 [true, false, true] s1 = some ((.snoc (.snoc .emp (.snoc (.snoc .emp (.snoc (.snoc (.snoc (.snoc .emp (.ofI (.il 0))) .nil) .nil) .nil)) .nil)) (.ofI (.il 2))), [.ask (.lt (.iv 0) (.len (.vv 1))), .ask (IB (.iv 0) (.vv 1)), .ask (.not (.lt (.toI (.get (.vv 1) (.iv 0))) (.il (-1)))), .ask (.lt (.il 0) (.len (.get (.vv 0) (.il 3)))), .ask (.le (.len (.get (.get (.vv 0) (.il 3)) (.il 0))) (.toI (.get (.vv 1) (.iv 0))))]) := by kernel_rfl
theorem p6 : stretch K 37 [true, false, false] s1 s1 [] ⟨[(.add (.iv 0) (.il 1))], [], [(.vv 0), (.vv 1), (.vv 2)], [(q 0 0), (q 1 0), (q 2 0), (q 3 0), (q 4 0), (q 5 0), (q 6 0), (q 7 0)]⟩ [(0, (some 0)), (1, (some 1))] = some (s1, [.ask (.lt (.iv 0) (.len (.vv 1))), .ask (IB (.iv 0) (.vv 1)), .ask (.not (.lt (.toI (.get (.vv 1) (.iv 0))) (.il (-1)))), .ask (.lt (.il 0) (.len (.get (.vv 0) (.il 3)))), .ask (.not (.le (.len (.get (.get (.vv 0) (.il 3)) (.il 0))) (.toI (.get (.vv 1) (.iv 0))))), .ask (FT (.add (.iv 0) (.il 1)))]) := by kernel_rfl
theorem p7 : last K 47 16 [false] s1 = some ((.snoc (.snoc .emp (.snoc (.snoc .emp (.snoc (.snoc (.snoc (.snoc .emp (.ofI (.toI (.get (.vv 0) (.il 0))))) (.get (.vv 0) (.il 1))) (.get (.vv 0) (.il 2))) (.get (.vv 0) (.il 3)))) (.vv 1))) (.ofI (.il 0))), [.ask (.not (.lt (.iv 0) (.len (.vv 1))))]) := by kernel_rfl
theorem b : sbegin prog 47 = some s0 := by kernel_rfl
end watch
end X
namespace X
open Go Go.Abs Go.Sym
namespace hshows
abbrev f : Nat := 83
noncomputable def K : Cfg := ⟨prog, pl, [], [], []⟩
noncomputable def s0 : SMach := ⟨⟨83, 29, (m (.agg [(.int .i64 (.toI (.get (.get (.vv 0) (.il 0)) (.il 0)))), (.pure 3 (.get (.get (.vv 0) (.il 0)) (.il 1)) (q 0 1)), (.pure 27 (.get (.get (.vv 0) (.il 0)) (.il 2)) (q 0 2)), (.pure 27 (.get (.get (.vv 0) (.il 0)) (.il 3)) (q 0 3)), (.pure 3 (.get (.vv 0) (.il 1)) (q 0 4))]) (l (.int .i64 (.toI (.vv 1)))) (l (.int .i64 (.toI (.vv 2)))) z z), [.code (C 83 [])], [], .run, false, none⟩, [], ⟨0, 3, 3, z⟩⟩
theorem p0 : last K 83 24 [true] s0 = some ((.ofI (.toI (.get (.get (.vv 0) (.il 0)) (.il 0)))), [.ask (IB (.toI (.vv 1)) (.get (.vv 0) (.il 1))), .ask (.lt (.toI (.get (.get (.vv 0) (.il 1)) (.toI (.vv 1)))) (.il 0))]) := by kernel_rfl
theorem p1 : last K 83 35 [false] s0 = some ((.ofI (.toI (.get (.get (.get (.get (.vv 0) (.il 0)) (.il 3)) (.toI (.vv 2))) (.toI (.get (.get (.vv 0) (.il 1)) (.toI (.vv 1))))))), [.ask (IB (.toI (.vv 1)) (.get (.vv 0) (.il 1))), .ask (.not (.lt (.toI (.get (.get (.vv 0) (.il 1)) (.toI (.vv 1)))) (.il 0))), .ask (IB (.toI (.vv 2)) (.get (.get (.vv 0) (.il 0)) (.il 3))), .ask (IB (.toI (.vv 1)) (.get (.vv 0) (.il 1))), .ask (IB (.toI (.get (.get (.vv 0) (.il 1)) (.toI (.vv 1)))) (.get (.get (.get (.vv 0) (.il 0)) (.il 3)) (.toI (.vv 2))))]) := by kernel_rfl
theorem b : sbegin prog 83 = some s0 := by kernel_rfl
end hshows
end X
namespace X
open Go Go.Abs Go.Sym
namespace forward
abbrev f : Nat := 48
noncomputable def K : Cfg := ⟨prog, pl, [(81, 29)], [83], []⟩
noncomputable def s0 : SMach := ⟨⟨48, 6, (l (.agg [(.int .i64 (.toI (.get (.get (.vv 0) (.il 0)) (.il 0)))), (.pure 3 (.get (.get (.vv 0) (.il 0)) (.il 1)) (q 0 1)), (.pure 27 (.get (.get (.vv 0) (.il 0)) (.il 2)) (q 0 2)), (.pure 27 (.get (.get (.vv 0) (.il 0)) (.il 3)) (q 0 3)), (.pure 3 (.get (.vv 0) (.il 1)) (q 0 4))])), [.code (C 48 [])], [], .run, false, none⟩, [], ⟨0, 1, 1, z⟩⟩
noncomputable def s1 : SMach := ⟨⟨65, 17, (n (l (.yieldf 8)) (l (.addr 9 0)) z (l (.int .i64 (.iv 0)))), [.code (C 65 [1, 1, 0, 0]), .inLoop (C 65 [1, 1, 0, 0]), .inBlock 0], [], .run, false, none⟩, [⟨98, 10, (m (.yieldf 8) (l (.addr 2 0)) (m (.addr 1 0) (l (.func 65 [] [])) z z z) (n (l (.agg [(.int .i64 (.toI (.get (.get (.vv 0) (.il 0)) (.il 0)))), (.pure 3 (.get (.get (.vv 0) (.il 0)) (.il 1)) (q 13 0)), (.pure 27 (.get (.get (.vv 0) (.il 0)) (.il 2)) (q 14 0)), (.pure 27 (.get (.get (.vv 0) (.il 0)) (.il 3)) (q 15 0)), (.pure 3 (.get (.vv 0) (.il 1)) (q 16 0))])) z z z) (m (.int .i64 (.il 0)) (l (.yieldf 8)) z z z)), [.dreg (O 98 []) [(5, [])]], [], .run, false, none⟩, ⟨81, 44, (n (n (l (.addr 3 0)) z z z) z (m (.addr 1 0) (l (.addr 5 0)) z z z) (n (l (.addr 6 0)) z z z)), [.inRangeFunc 8, .inBlock 0, .code (C 81 [1, 1, 1, 1])], [⟨.collected 7, []⟩], .run, false, none⟩, ⟨48, 6, (n z z (l (.agg [(.int .i64 (.toI (.get (.get (.vv 0) (.il 0)) (.il 0)))), (.pure 3 (.get (.get (.vv 0) (.il 0)) (.il 1)) (q 17 0)), (.pure 27 (.get (.get (.vv 0) (.il 0)) (.il 2)) (q 18 0)), (.pure 27 (.get (.get (.vv 0) (.il 0)) (.il 3)) (q 19 0)), (.pure 3 (.get (.vv 0) (.il 1)) (q 20 0))])) (l (.func 82 [] [(.addr 0 0)]))), [R 48 [1, 0] 2, .code .ret], [], .run, false, none⟩], ⟨10, 22, 3, (m (.cells [(.int .i64 (.toI (.get (.get (.vv 0) (.il 0)) (.il 0)))), (.pure 3 (.get (.get (.vv 0) (.il 0)) (.il 1)) (q 5 0)), (.pure 27 (.get (.get (.vv 0) (.il 0)) (.il 2)) (q 6 0)), (.pure 27 (.get (.get (.vv 0) (.il 0)) (.il 3)) (q 7 0)), (.pure 3 (.get (.vv 0) (.il 1)) (q 8 0))]) (m (.cells [(.int .i64 (.toI (.get (.get (.vv 0) (.il 0)) (.il 0)))), (.pure 3 (.get (.get (.vv 0) (.il 0)) (.il 1)) (q 1 0)), (.pure 27 (.get (.get (.vv 0) (.il 0)) (.il 2)) (q 2 0)), (.pure 27 (.get (.get (.vv 0) (.il 0)) (.il 3)) (q 3 0)), (.pure 3 (.get (.vv 0) (.il 1)) (q 4 0))]) (l (.cells [(.view 4)])) (l (.cells [(.int .i64 (.toI (.get (.get (.vv 0) (.il 0)) (.il 0)))), (.pure 3 (.get (.get (.vv 0) (.il 0)) (.il 1)) (q 9 0)), (.pure 27 (.get (.get (.vv 0) (.il 0)) (.il 2)) (q 10 0)), (.pure 27 (.get (.get (.vv 0) (.il 0)) (.il 3)) (q 11 0)), (.pure 3 (.get (.vv 0) (.il 1)) (q 12 0))])) z z) (m (.cells [(.int .i64 (.il 0))]) (l (.cells [(.pure 3 (.vv 1) (q 21 0))])) z z z) (m (.cells [(.func 82 [] [(.addr 0 0)])]) (l (.deferred (some []))) z z z) (m (.arr 27 (.vv 2) 0) (l (.loop ⟨.ready, none, 81, 44, (n (n (l (.addr 3 0)) z z z) z (m (.addr 1 0) (l (.addr 5 0)) z z z) (n (l (.addr 6 0)) z z z)), PA 81 [1, 1, 1, 0, 1, 0], (C 81 [1, 1, 1, 0, 1, 0, 0]), (C 81 [1, 1, 1, 0, 1, 0, 1]), 7⟩)) z z z))⟩⟩
noncomputable def s2 : SMach := ⟨⟨81, 44, (n (n (m (.addr 3 0) (l (.int .i64 (.il 0))) z z z) (l (.int .i64 (.iv 0))) z z) z (n (l (.addr 5 0)) z z z) (n (l (.addr 6 0)) z z (l (.int .i64 (.len (.get (.get (.vv 0) (.il 0)) (.il 1))))))), [.code (C 81 [1, 1, 1, 0, 1, 0, 1, 0, 0, 1, 0, 0]), .inLoop (C 81 [1, 1, 1, 0, 1, 0, 1, 0, 0, 1, 0, 0]), .inBlock 2, .code (C 81 [1, 1, 1, 0, 1, 0, 1, 0, 1]), .inBlock 1], [], .run, false, (some 8)⟩, [⟨65, 17, (n (l (.yieldf 8)) (m (.addr 9 0) z (l (.bool (.bl true))) z z) (n z (l (.yieldf 8)) z z) (m (.int .i64 (.iv 0)) z (l (.int .i64 (.iv 0))) z z)), [R 65 [1, 1, 0, 0, 0, 0] 8, .code (C 65 [1, 1, 0, 0, 0, 1]), .code (C 65 [1, 1, 0, 0, 1]), .inLoop (C 65 [1, 1, 0, 0]), .inBlock 0], [], .run, false, none⟩, ⟨98, 10, (m (.yieldf 8) (l (.addr 2 0)) (m (.addr 1 0) (l (.func 65 [] [])) z z z) (n (l (.agg [(.int .i64 (.toI (.get (.get (.vv 0) (.il 0)) (.il 0)))), (.pure 3 (.get (.get (.vv 0) (.il 0)) (.il 1)) (q 33 0)), (.pure 27 (.get (.get (.vv 0) (.il 0)) (.il 2)) (q 34 0)), (.pure 27 (.get (.get (.vv 0) (.il 0)) (.il 3)) (q 35 0)), (.pure 3 (.get (.vv 0) (.il 1)) (q 36 0))])) z z z) (m (.int .i64 (.il 0)) (l (.yieldf 8)) z z z)), [.dreg (O 98 []) [(5, [])]], [], .run, false, none⟩, ⟨81, 44, (n (n (l (.addr 3 0)) z z z) z (m (.addr 1 0) (l (.addr 5 0)) z z z) (n (l (.addr 6 0)) z z z)), [.inRangeFunc 8, .inBlock 0, .code (C 81 [1, 1, 1, 1])], [⟨.collected 7, []⟩], .run, false, none⟩, ⟨48, 6, (n z z (l (.agg [(.int .i64 (.toI (.get (.get (.vv 0) (.il 0)) (.il 0)))), (.pure 3 (.get (.get (.vv 0) (.il 0)) (.il 1)) (q 37 0)), (.pure 27 (.get (.get (.vv 0) (.il 0)) (.il 2)) (q 38 0)), (.pure 27 (.get (.get (.vv 0) (.il 0)) (.il 3)) (q 39 0)), (.pure 3 (.get (.vv 0) (.il 1)) (q 40 0))])) (l (.func 82 [] [(.addr 0 0)]))), [R 48 [1, 0] 2, .code .ret], [], .run, false, none⟩], ⟨10, 42, 3, (m (.cells [(.int .i64 (.toI (.get (.get (.vv 0) (.il 0)) (.il 0)))), (.pure 3 (.get (.get (.vv 0) (.il 0)) (.il 1)) (q 21 0)), (.pure 27 (.get (.get (.vv 0) (.il 0)) (.il 2)) (q 22 0)), (.pure 27 (.get (.get (.vv 0) (.il 0)) (.il 3)) (q 23 0)), (.pure 3 (.get (.vv 0) (.il 1)) (q 24 0))]) (m (.cells [(.int .i64 (.toI (.get (.get (.vv 0) (.il 0)) (.il 0)))), (.pure 3 (.get (.get (.vv 0) (.il 0)) (.il 1)) (q 25 0)), (.pure 27 (.get (.get (.vv 0) (.il 0)) (.il 2)) (q 26 0)), (.pure 27 (.get (.get (.vv 0) (.il 0)) (.il 3)) (q 27 0)), (.pure 3 (.get (.vv 0) (.il 1)) (q 28 0))]) (l (.cells [(.view 4)])) (l (.cells [(.int .i64 (.toI (.get (.get (.vv 0) (.il 0)) (.il 0)))), (.pure 3 (.get (.get (.vv 0) (.il 0)) (.il 1)) (q 29 0)), (.pure 27 (.get (.get (.vv 0) (.il 0)) (.il 2)) (q 30 0)), (.pure 27 (.get (.get (.vv 0) (.il 0)) (.il 3)) (q 31 0)), (.pure 3 (.get (.vv 0) (.il 1)) (q 32 0))])) z z) (m (.cells [(.int .i64 (.il 0))]) (l (.cells [(.pure 3 (.vv 1) (q 41 0))])) z z z) (m (.cells [(.func 82 [] [(.addr 0 0)])]) (l (.deferred (some []))) z z z) (m (.arr 27 (.vv 2) 0) (l (.loop ⟨.busy, none, 81, 44, (n (n (l (.addr 3 0)) z z z) z (m (.addr 1 0) (l (.addr 5 0)) z z z) (n (l (.addr 6 0)) z z z)), PA 81 [1, 1, 1, 0, 1, 0], (C 81 [1, 1, 1, 0, 1, 0, 0]), (C 81 [1, 1, 1, 0, 1, 0, 1]), 7⟩)) z z z))⟩⟩
noncomputable def s3 : SMach := ⟨⟨82, 46, (m (.int .i64 (.iv 1)) (m (.int .i64 (.iv 0)) z z (l (.int .i64 (.iv 4))) z) z (m (.addr 0 0) z (l (.pure 3 (.vv 2) (q 61 0))) z z) (n (l (.int .i64 (.iv 3))) (l (.int .i64 (.iv 2))) z z)), [.code (C 82 [1, 1, 0, 1, 0, 0]), .inLoop (C 82 [1, 1, 0, 1, 0, 0]), .inBlock 0, .code (C 82 [1, 1, 1])], [], .run, false, none⟩, [⟨81, 44, (n (n (m (.addr 3 0) (l (.int .i64 (.iv 0))) z z z) (m (.int .i64 (.iv 1)) (l (.int .i64 (.iv 1))) z z z) (n (l (.view 10)) z z z) (n (l (.pure 3 (.vv 4) (q 63 0))) z z z)) (n z (m (.int .i64 (.iv 0)) (l (.view 4)) z z z) (n (l (.func 82 [] [(.addr 0 0)])) z z z) z) (n (l (.addr 5 0)) (n (l (.int .i64 (.iv 1))) z z z) (n (l (.int .i64 (.iv 1))) z z z) z) (n (m (.addr 6 0) (l (.view 4)) z z z) (n (l (.addrE 4 (.iv 1) 0)) z z z) (n (l (.int .i64 (.iv 0))) z z z) (l (.int .i64 (.len (.get (.get (.vv 0) (.il 0)) (.il 1))))))), [.dreg (O 81 [1, 1, 1, 0, 1, 0, 1, 0, 0, 1, 0, 0, 1, 1, 0, 0, 1]) [(10, [0, 2, 5]), (11, []), (12, [0]), (13, []), (14, [])], .inBlock 3, .code (C 81 [1, 1, 1, 0, 1, 0, 1, 0, 0, 1, 0, 0, 1, 1, 1]), .inLoop (C 81 [1, 1, 1, 0, 1, 0, 1, 0, 0, 1, 0, 0]), .inBlock 2, .code (C 81 [1, 1, 1, 0, 1, 0, 1, 0, 1]), .inBlock 1], [], .run, false, (some 8)⟩, ⟨65, 17, (n (l (.yieldf 8)) (m (.addr 9 0) z (l (.bool (.bl true))) z z) (n z (l (.yieldf 8)) z z) (m (.int .i64 (.iv 1)) z (l (.int .i64 (.iv 1))) z z)), [R 65 [1, 1, 0, 0, 0, 0] 8, .code (C 65 [1, 1, 0, 0, 0, 1]), .code (C 65 [1, 1, 0, 0, 1]), .inLoop (C 65 [1, 1, 0, 0]), .inBlock 0], [], .run, false, none⟩, ⟨98, 10, (m (.yieldf 8) (l (.addr 2 0)) (m (.addr 1 0) (l (.func 65 [] [])) z z z) (n (l (.agg [(.int .i64 (.toI (.get (.get (.vv 0) (.il 0)) (.il 0)))), (.pure 3 (.get (.get (.vv 0) (.il 0)) (.il 1)) (q 53 0)), (.pure 27 (.get (.get (.vv 0) (.il 0)) (.il 2)) (q 54 0)), (.pure 27 (.get (.get (.vv 0) (.il 0)) (.il 3)) (q 55 0)), (.pure 3 (.get (.vv 0) (.il 1)) (q 56 0))])) z z z) (m (.int .i64 (.il 0)) (l (.yieldf 8)) z z z)), [.dreg (O 98 []) [(5, [])]], [], .run, false, none⟩, ⟨81, 44, (n (n (l (.addr 3 0)) z z z) z (m (.addr 1 0) (l (.addr 5 0)) z z z) (n (l (.addr 6 0)) z z z)), [.inRangeFunc 8, .inBlock 0, .code (C 81 [1, 1, 1, 1])], [⟨.collected 7, []⟩], .run, false, none⟩, ⟨48, 6, (n z z (l (.agg [(.int .i64 (.toI (.get (.get (.vv 0) (.il 0)) (.il 0)))), (.pure 3 (.get (.get (.vv 0) (.il 0)) (.il 1)) (q 57 0)), (.pure 27 (.get (.get (.vv 0) (.il 0)) (.il 2)) (q 58 0)), (.pure 27 (.get (.get (.vv 0) (.il 0)) (.il 3)) (q 59 0)), (.pure 3 (.get (.vv 0) (.il 1)) (q 60 0))])) (l (.func 82 [] [(.addr 0 0)]))), [R 48 [1, 0] 2, .code .ret], [], .run, false, none⟩], ⟨12, 64, 6, (m (.cells [(.int .i64 (.toI (.get (.get (.vv 0) (.il 0)) (.il 0)))), (.pure 3 (.get (.get (.vv 0) (.il 0)) (.il 1)) (q 41 0)), (.pure 27 (.get (.get (.vv 0) (.il 0)) (.il 2)) (q 42 0)), (.pure 27 (.get (.get (.vv 0) (.il 0)) (.il 3)) (q 43 0)), (.pure 3 (.get (.vv 0) (.il 1)) (q 44 0))]) (m (.cells [(.int .i64 (.toI (.get (.get (.vv 0) (.il 0)) (.il 0)))), (.pure 3 (.get (.get (.vv 0) (.il 0)) (.il 1)) (q 45 0)), (.pure 27 (.get (.get (.vv 0) (.il 0)) (.il 2)) (q 46 0)), (.pure 27 (.get (.get (.vv 0) (.il 0)) (.il 3)) (q 47 0)), (.pure 3 (.get (.vv 0) (.il 1)) (q 48 0))]) (l (.cells [(.view 4)])) (l (.cells [(.int .i64 (.toI (.get (.get (.vv 0) (.il 0)) (.il 0)))), (.pure 3 (.get (.get (.vv 0) (.il 0)) (.il 1)) (q 49 0)), (.pure 27 (.get (.get (.vv 0) (.il 0)) (.il 2)) (q 50 0)), (.pure 27 (.get (.get (.vv 0) (.il 0)) (.il 3)) (q 51 0)), (.pure 3 (.get (.vv 0) (.il 1)) (q 52 0))])) z z) (m (.cells [(.int .i64 (.il 0))]) (l (.cells [(.pure 3 (.vv 3) (q 62 0))])) (l (.arr 3 (.vv 1) 0)) z z) (m (.cells [(.func 82 [] [(.addr 0 0)])]) (l (.deferred (some []))) z z z) (m (.arrH 27 3 (.vv 5) (.iv 1) 10) (l (.loop ⟨.busy, none, 81, 44, (n (n (l (.addr 3 0)) z z z) z (m (.addr 1 0) (l (.addr 5 0)) z z z) (n (l (.addr 6 0)) z z z)), PA 81 [1, 1, 1, 0, 1, 0], (C 81 [1, 1, 1, 0, 1, 0, 0]), (C 81 [1, 1, 1, 0, 1, 0, 1]), 7⟩)) z z z))⟩⟩
noncomputable def s4 : SMach := ⟨⟨81, 44, (n (n (m (.addr 3 0) (l (.int .i64 (.iv 1))) z z z) (l (.int .i64 (.iv 0))) z z) z (n (l (.addr 5 0)) z z z) (n (l (.addr 6 0)) z z (l (.int .i64 (.len (.get (.get (.vv 0) (.il 0)) (.il 1))))))), [.code (C 81 [1, 1, 1, 0, 1, 0, 1, 0, 0, 1, 0, 0]), .inLoop (C 81 [1, 1, 1, 0, 1, 0, 1, 0, 0, 1, 0, 0]), .inBlock 2, .code (C 81 [1, 1, 1, 0, 1, 0, 1, 0, 1]), .inBlock 1], [], .run, false, (some 8)⟩, [⟨65, 17, (n (l (.yieldf 8)) (m (.addr 9 0) z (l (.bool (.bl true))) z z) (n z (l (.yieldf 8)) z z) (m (.int .i64 (.iv 0)) z (l (.int .i64 (.iv 0))) z z)), [R 65 [1, 1, 0, 0, 0, 0] 8, .code (C 65 [1, 1, 0, 0, 0, 1]), .code (C 65 [1, 1, 0, 0, 1]), .inLoop (C 65 [1, 1, 0, 0]), .inBlock 0], [], .run, false, none⟩, ⟨98, 10, (m (.yieldf 8) (l (.addr 2 0)) (m (.addr 1 0) (l (.func 65 [] [])) z z z) (n (l (.agg [(.int .i64 (.toI (.get (.get (.vv 0) (.il 0)) (.il 0)))), (.pure 3 (.get (.get (.vv 0) (.il 0)) (.il 1)) (q 74 0)), (.pure 27 (.get (.get (.vv 0) (.il 0)) (.il 2)) (q 75 0)), (.pure 27 (.get (.get (.vv 0) (.il 0)) (.il 3)) (q 76 0)), (.pure 3 (.get (.vv 0) (.il 1)) (q 77 0))])) z z z) (m (.int .i64 (.il 0)) (l (.yieldf 8)) z z z)), [.dreg (O 98 []) [(5, [])]], [], .run, false, none⟩, ⟨81, 44, (n (n (l (.addr 3 0)) z z z) z (m (.addr 1 0) (l (.addr 5 0)) z z z) (n (l (.addr 6 0)) z z z)), [.inRangeFunc 8, .inBlock 0, .code (C 81 [1, 1, 1, 1])], [⟨.collected 7, []⟩], .run, false, none⟩, ⟨48, 6, (n z z (l (.agg [(.int .i64 (.toI (.get (.get (.vv 0) (.il 0)) (.il 0)))), (.pure 3 (.get (.get (.vv 0) (.il 0)) (.il 1)) (q 78 0)), (.pure 27 (.get (.get (.vv 0) (.il 0)) (.il 2)) (q 79 0)), (.pure 27 (.get (.get (.vv 0) (.il 0)) (.il 3)) (q 80 0)), (.pure 3 (.get (.vv 0) (.il 1)) (q 81 0))])) (l (.func 82 [] [(.addr 0 0)]))), [R 48 [1, 0] 2, .code .ret], [], .run, false, none⟩], ⟨14, 83, 5, (m (.cells [(.int .i64 (.toI (.get (.get (.vv 0) (.il 0)) (.il 0)))), (.pure 3 (.get (.get (.vv 0) (.il 0)) (.il 1)) (q 62 0)), (.pure 27 (.get (.get (.vv 0) (.il 0)) (.il 2)) (q 63 0)), (.pure 27 (.get (.get (.vv 0) (.il 0)) (.il 3)) (q 64 0)), (.pure 3 (.get (.vv 0) (.il 1)) (q 65 0))]) (m (.cells [(.int .i64 (.toI (.get (.get (.vv 0) (.il 0)) (.il 0)))), (.pure 3 (.get (.get (.vv 0) (.il 0)) (.il 1)) (q 66 0)), (.pure 27 (.get (.get (.vv 0) (.il 0)) (.il 2)) (q 67 0)), (.pure 27 (.get (.get (.vv 0) (.il 0)) (.il 3)) (q 68 0)), (.pure 3 (.get (.vv 0) (.il 1)) (q 69 0))]) (l (.cells [(.view 4)])) (l (.cells [(.int .i64 (.toI (.get (.get (.vv 0) (.il 0)) (.il 0)))), (.pure 3 (.get (.get (.vv 0) (.il 0)) (.il 1)) (q 70 0)), (.pure 27 (.get (.get (.vv 0) (.il 0)) (.il 2)) (q 71 0)), (.pure 27 (.get (.get (.vv 0) (.il 0)) (.il 3)) (q 72 0)), (.pure 3 (.get (.vv 0) (.il 1)) (q 73 0))])) (l (.arr 3 (.vv 2) 0)) z) (m (.cells [(.int .i64 (.il 0))]) (l (.cells [(.pure 3 (.vv 3) (q 82 0))])) z z z) (m (.cells [(.func 82 [] [(.addr 0 0)])]) (l (.deferred (some []))) z z z) (m (.arrH 27 3 (.vv 4) (.iv 0) 13) (l (.loop ⟨.busy, none, 81, 44, (n (n (l (.addr 3 0)) z z z) z (m (.addr 1 0) (l (.addr 5 0)) z z z) (n (l (.addr 6 0)) z z z)), PA 81 [1, 1, 1, 0, 1, 0], (C 81 [1, 1, 1, 0, 1, 0, 0]), (C 81 [1, 1, 1, 0, 1, 0, 1]), 7⟩)) z z z))⟩⟩
theorem p0 : stretch K 54 [] s0 s1 [] ⟨[(.il 0)], [], [(.vv 0), .nil, (.rep (.len (.get (.vv 0) (.il 1))) .nil)], [(q 0 0), (q 0 1), (q 0 2), (q 0 3), (q 0 4), (q 0 1), (q 0 2), (q 0 3), (q 0 4), (q 0 1), (q 0 2), (q 0 3), (q 0 4), (q 0 1), (q 0 2), (q 0 3), (q 0 4), (q 0 1), (q 0 2), (q 0 3), (q 0 4), .nil]⟩ [(8, (some 8)), (1, (some 1)), (3, (some 3)), (0, (some 0)), (5, (some 5)), (4, (some 4)), (6, (some 6)), (7, (some 7)), (9, (some 9)), (2, (some 2))] = some (s1, [.ask (.and (.le (.il 0) (.len (.get (.vv 0) (.il 1)))) (.le (.len (.get (.vv 0) (.il 1))) (.il 5864062014805)))]) := by kernel_rfl
theorem p1 : stretch K 28 [true] s1 s2 [] ⟨[(.iv 0)], [], [(.vv 0), (.vv 1), (.vv 2)], [(q 0 0), (q 1 0), (q 2 0), (q 3 0), (q 4 0), (q 5 0), (q 6 0), (q 7 0), (q 8 0), (q 9 0), (q 10 0), (q 11 0), (q 12 0), (q 13 0), (q 14 0), (q 15 0), (q 16 0), (q 17 0), (q 18 0), (q 19 0), (q 20 0), (q 5 0), (q 6 0), (q 7 0), (q 8 0), (q 1 0), (q 2 0), (q 3 0), (q 4 0), (q 9 0), (q 10 0), (q 11 0), (q 12 0), (q 13 0), (q 14 0), (q 15 0), (q 16 0), (q 17 0), (q 18 0), (q 19 0), (q 20 0), (q 21 0)]⟩ [(3, (some 3)), (0, (some 0)), (5, (some 5)), (4, (some 4)), (6, (some 6)), (8, (some 8)), (1, (some 1)), (7, (some 7)), (9, (some 9)), (2, (some 2))] = some (s2, [.ask (.lt (.iv 0) (.len (.get (.vv 0) (.il 1))))]) := by kernel_rfl
theorem p2 : last K 48 34 [false] s1 = some ((.vv 2), [.ask (.not (.lt (.iv 0) (.len (.get (.vv 0) (.il 1)))))]) := by kernel_rfl
theorem p3 : stretch K 43 [true] s2 s3 [] ⟨[(.il 0), (.iv 0), (.len (.vv 1)), (.il 0), (.il 0)], [], [(.vv 0), .nil, (.vv 1), (.vv 1), (.vv 1), (.vv 2)], [(q 0 0), (q 1 0), (q 2 0), (q 3 0), (q 4 0), (q 5 0), (q 6 0), (q 7 0), (q 8 0), (q 9 0), (q 10 0), (q 11 0), (q 12 0), (q 13 0), (q 14 0), (q 15 0), (q 16 0), (q 17 0), (q 18 0), (q 19 0), (q 20 0), (q 21 0), (q 22 0), (q 23 0), (q 24 0), (q 25 0), (q 26 0), (q 27 0), (q 28 0), (q 29 0), (q 30 0), (q 31 0), (q 32 0), (q 33 0), (q 34 0), (q 35 0), (q 36 0), (q 37 0), (q 38 0), (q 39 0), (q 40 0), (q 21 0), (q 22 0), (q 23 0), (q 24 0), (q 25 0), (q 26 0), (q 27 0), (q 28 0), (q 29 0), (q 30 0), (q 31 0), (q 32 0), (q 33 0), (q 34 0), (q 35 0), (q 36 0), (q 37 0), (q 38 0), (q 39 0), (q 40 0), (q 41 0), (q 41 0), (q 41 0)]⟩ [(0, (some 0)), (3, (some 3)), (5, (some 5)), (4, (some 4)), (10, (some 10)), (6, (some 6)), (8, (some 8)), (1, (some 1)), (7, (some 7)), (9, (some 9)), (2, (some 2))] = some (s3, [.ask (.lt (.il 0) (.len (.get (.get (.vv 0) (.il 0)) (.il 1)))), .ask (IB (.iv 0) (.vv 2)), .ask (.isNil (.get (.vv 2) (.iv 0))), .ask (IB (.iv 0) (.vv 2)), .ask (IB (.iv 0) (.vv 2))]) := by kernel_rfl
theorem p5 : stretch K 39 [true] s3 s3 [] ⟨[(.iv 0), (.iv 1), (.iv 2), (.add (.iv 3) (.mul (.toI (.get (.vv 2) (.iv 4))) (.toI (.get (.get (.get (.get (.vv 0) (.il 0)) (.il 2)) (.iv 4)) (.iv 0))))), (.add (.iv 4) (.il 1))], [], [(.vv 0), (.vv 1), (.vv 2), (.vv 3), (.vv 4), (.vv 5)], [(q 0 0), (q 1 0), (q 2 0), (q 3 0), (q 4 0), (q 5 0), (q 6 0), (q 7 0), (q 8 0), (q 9 0), (q 10 0), (q 11 0), (q 12 0), (q 13 0), (q 14 0), (q 15 0), (q 16 0), (q 17 0), (q 18 0), (q 19 0), (q 20 0), (q 21 0), (q 22 0), (q 23 0), (q 24 0), (q 25 0), (q 26 0), (q 27 0), (q 28 0), (q 29 0), (q 30 0), (q 31 0), (q 32 0), (q 33 0), (q 34 0), (q 35 0), (q 36 0), (q 37 0), (q 38 0), (q 39 0), (q 40 0), (q 41 0), (q 42 0), (q 43 0), (q 44 0), (q 45 0), (q 46 0), (q 47 0), (q 48 0), (q 49 0), (q 50 0), (q 51 0), (q 52 0), (q 53 0), (q 54 0), (q 55 0), (q 56 0), (q 57 0), (q 58 0), (q 59 0), (q 60 0), (q 61 0), (q 62 0), (q 63 0)]⟩ [(0, (some 0)), (3, (some 3)), (5, (some 5)), (4, (some 4)), (10, (some 10)), (6, (some 6)), (8, (some 8)), (1, (some 1)), (7, (some 7)), (9, (some 9)), (2, (some 2))] = some (s3, [.ask (.lt (.iv 4) (.iv 2)), .ask (IB (.iv 4) (.vv 2)), .ask (IB (.iv 4) (.get (.get (.vv 0) (.il 0)) (.il 2))), .ask (IB (.iv 0) (.get (.get (.get (.vv 0) (.il 0)) (.il 2)) (.iv 4))), .ask (FT (.mul (.toI (.get (.vv 2) (.iv 4))) (.toI (.get (.get (.get (.get (.vv 0) (.il 0)) (.il 2)) (.iv 4)) (.iv 0))))), .ask (FT (.add (.iv 3) (.mul (.toI (.get (.vv 2) (.iv 4))) (.toI (.get (.get (.get (.get (.vv 0) (.il 0)) (.il 2)) (.iv 4)) (.iv 0)))))), .ask (FT (.add (.iv 4) (.il 1)))]) := by kernel_rfl
theorem p6 : stretch K 46 [false, true] s3 s4 [] ⟨[(.iv 1), (.add (.iv 0) (.il 1))], [], [(.vv 0), (.vv 1), (.snoc (.vv 1) (.ofI (.mul (.toI (.get (.get (.get (.vv 0) (.il 0)) (.il 1)) (.iv 0))) (.toI (.vv 6))))), (.vv 3), (.vv 5)], [(q 0 0), (q 1 0), (q 2 0), (q 3 0), (q 4 0), (q 5 0), (q 6 0), (q 7 0), (q 8 0), (q 9 0), (q 10 0), (q 11 0), (q 12 0), (q 13 0), (q 14 0), (q 15 0), (q 16 0), (q 17 0), (q 18 0), (q 19 0), (q 20 0), (q 21 0), (q 22 0), (q 23 0), (q 24 0), (q 25 0), (q 26 0), (q 27 0), (q 28 0), (q 29 0), (q 30 0), (q 31 0), (q 32 0), (q 33 0), (q 34 0), (q 35 0), (q 36 0), (q 37 0), (q 38 0), (q 39 0), (q 40 0), (q 41 0), (q 42 0), (q 43 0), (q 44 0), (q 45 0), (q 46 0), (q 47 0), (q 48 0), (q 49 0), (q 50 0), (q 51 0), (q 52 0), (q 53 0), (q 54 0), (q 55 0), (q 56 0), (q 57 0), (q 58 0), (q 59 0), (q 60 0), (q 61 0), (q 41 0), (q 42 0), (q 43 0), (q 44 0), (q 45 0), (q 46 0), (q 47 0), (q 48 0), (q 49 0), (q 50 0), (q 51 0), (q 52 0), (q 53 0), (q 54 0), (q 55 0), (q 56 0), (q 57 0), (q 58 0), (q 59 0), (q 60 0), (q 62 0)]⟩ [(3, (some 3)), (0, (some 0)), (5, (some 5)), (4, (some 4)), (13, (some 13)), (6, (some 6)), (8, (some 8)), (1, (some 1)), (7, (some 7)), (9, (some 9)), (2, (some 2))] = some (s4, [.ask (.not (.lt (.iv 4) (.iv 2))), .ask (.eq (.iv 1) (.il 0)), .ask (IB (.iv 0) (.get (.get (.vv 0) (.il 0)) (.il 1))), .call 83 [(.snoc (.snoc .emp (.snoc (.snoc (.snoc (.snoc .emp (.ofI (.toI (.get (.get (.vv 0) (.il 0)) (.il 0))))) (.get (.get (.vv 0) (.il 0)) (.il 1))) (.get (.get (.vv 0) (.il 0)) (.il 2))) (.get (.get (.vv 0) (.il 0)) (.il 3)))) (.get (.vv 0) (.il 1))), (.ofI (.iv 1)), (.ofI (.iv 0))], .ask (FT (.mul (.toI (.get (.get (.get (.vv 0) (.il 0)) (.il 1)) (.iv 0))) (.toI (.vv 6)))), .ask (IB (.iv 1) (.vv 5)), .ask (.le (.add (.len (.vv 1)) (.il 1)) (.il 8796093021696)), .ask (IB (.iv 1) (.vv 5)), .ask (IB (.iv 1) (.vv 5)), .ask (FT (.add (.iv 0) (.il 1)))]) := by kernel_rfl
theorem p7 : stretch K 38 [false, false] s3 s4 [] ⟨[(.iv 1), (.add (.iv 0) (.il 1))], [], [(.vv 0), (.vv 1), (.snoc (.vv 1) (.ofI (.mul (.iv 3) (.toI (.vv 6))))), (.vv 3), (.vv 5)], [(q 0 0), (q 1 0), (q 2 0), (q 3 0), (q 4 0), (q 5 0), (q 6 0), (q 7 0), (q 8 0), (q 9 0), (q 10 0), (q 11 0), (q 12 0), (q 13 0), (q 14 0), (q 15 0), (q 16 0), (q 17 0), (q 18 0), (q 19 0), (q 20 0), (q 21 0), (q 22 0), (q 23 0), (q 24 0), (q 25 0), (q 26 0), (q 27 0), (q 28 0), (q 29 0), (q 30 0), (q 31 0), (q 32 0), (q 33 0), (q 34 0), (q 35 0), (q 36 0), (q 37 0), (q 38 0), (q 39 0), (q 40 0), (q 41 0), (q 42 0), (q 43 0), (q 44 0), (q 45 0), (q 46 0), (q 47 0), (q 48 0), (q 49 0), (q 50 0), (q 51 0), (q 52 0), (q 53 0), (q 54 0), (q 55 0), (q 56 0), (q 57 0), (q 58 0), (q 59 0), (q 60 0), (q 61 0), (q 41 0), (q 42 0), (q 43 0), (q 44 0), (q 45 0), (q 46 0), (q 47 0), (q 48 0), (q 49 0), (q 50 0), (q 51 0), (q 52 0), (q 53 0), (q 54 0), (q 55 0), (q 56 0), (q 57 0), (q 58 0), (q 59 0), (q 60 0), (q 62 0)]⟩ [(3, (some 3)), (0, (some 0)), (5, (some 5)), (4, (some 4)), (13, (some 13)), (6, (some 6)), (8, (some 8)), (1, (some 1)), (7, (some 7)), (9, (some 9)), (2, (some 2))] = some (s4, [.ask (.not (.lt (.iv 4) (.iv 2))), .ask (.not (.eq (.iv 1) (.il 0))), .call 83 [(.snoc (.snoc .emp (.snoc (.snoc (.snoc (.snoc .emp (.ofI (.toI (.get (.get (.vv 0) (.il 0)) (.il 0))))) (.get (.get (.vv 0) (.il 0)) (.il 1))) (.get (.get (.vv 0) (.il 0)) (.il 2))) (.get (.get (.vv 0) (.il 0)) (.il 3)))) (.get (.vv 0) (.il 1))), (.ofI (.iv 1)), (.ofI (.iv 0))], .ask (FT (.mul (.iv 3) (.toI (.vv 6)))), .ask (IB (.iv 1) (.vv 5)), .ask (.le (.add (.len (.vv 1)) (.il 1)) (.il 8796093021696)), .ask (IB (.iv 1) (.vv 5)), .ask (IB (.iv 1) (.vv 5)), .ask (FT (.add (.iv 0) (.il 1)))]) := by kernel_rfl
theorem p8 : stretch K 43 [true] s4 s3 [] ⟨[(.iv 1), (.iv 0), (.len (.vv 3)), (.il 0), (.il 0)], [], [(.vv 0), (.vv 2), (.vv 3), (.vv 3), (.vv 3), (.vv 4)], [(q 0 0), (q 1 0), (q 2 0), (q 3 0), (q 4 0), (q 5 0), (q 6 0), (q 7 0), (q 8 0), (q 9 0), (q 10 0), (q 11 0), (q 12 0), (q 13 0), (q 14 0), (q 15 0), (q 16 0), (q 17 0), (q 18 0), (q 19 0), (q 20 0), (q 21 0), (q 22 0), (q 23 0), (q 24 0), (q 25 0), (q 26 0), (q 27 0), (q 28 0), (q 29 0), (q 30 0), (q 31 0), (q 32 0), (q 33 0), (q 34 0), (q 35 0), (q 36 0), (q 37 0), (q 38 0), (q 39 0), (q 40 0), (q 62 0), (q 63 0), (q 64 0), (q 65 0), (q 66 0), (q 67 0), (q 68 0), (q 69 0), (q 70 0), (q 71 0), (q 72 0), (q 73 0), (q 74 0), (q 75 0), (q 76 0), (q 77 0), (q 78 0), (q 79 0), (q 80 0), (q 81 0), (q 82 0), (q 82 0), (q 82 0)]⟩ [(0, (some 0)), (3, (some 3)), (5, (some 5)), (4, (some 4)), (10, (some 13)), (6, (some 6)), (8, (some 8)), (1, (some 1)), (7, (some 7)), (9, (some 9)), (2, (some 2))] = some (s3, [.ask (.lt (.iv 1) (.len (.get (.get (.vv 0) (.il 0)) (.il 1)))), .ask (IB (.iv 0) (.vv 4)), .ask (IB (.iv 0) (.vv 4))]) := by kernel_rfl
theorem p9 : stretch K 30 [false] s4 s1 [] ⟨[(.add (.iv 0) (.il 1))], [], [(.vv 0), (.get (.set (.vv 4) (.iv 0) (.vv 2)) (.iv 0)), (.set (.vv 4) (.iv 0) (.vv 2))], [(q 0 0), (q 66 0), (q 67 0), (q 68 0), (q 69 0), (q 62 0), (q 63 0), (q 64 0), (q 65 0), (q 70 0), (q 71 0), (q 72 0), (q 73 0), (q 74 0), (q 75 0), (q 76 0), (q 77 0), (q 78 0), (q 79 0), (q 80 0), (q 81 0), (.elB 4 14 (.iv 0) 1 0)]⟩ [(8, (some 8)), (1, (some 1)), (3, (some 3)), (0, (some 0)), (5, (some 5)), (4, (some 4)), (6, (some 6)), (7, (some 7)), (9, (some 9)), (2, (some 2))] = some (s1, [.ask (.not (.lt (.iv 1) (.len (.get (.get (.vv 0) (.il 0)) (.il 1))))), .ask (IB (.iv 0) (.vv 4)), .ask (IB (.iv 0) (.vv 4)), .ask (FT (.add (.iv 0) (.il 1)))]) := by kernel_rfl
theorem b : sbegin prog 48 = some s0 := by kernel_rfl
end forward
end X
namespace X
open Go Go.Abs Go.Sym
namespace backward
abbrev f : Nat := 49
noncomputable def K : Cfg := ⟨prog, pl, [(81, 29)], [83], []⟩
noncomputable def s0 : SMach := ⟨⟨49, 6, (l (.agg [(.int .i64 (.toI (.get (.get (.vv 0) (.il 0)) (.il 0)))), (.pure 3 (.get (.get (.vv 0) (.il 0)) (.il 1)) (q 0 1)), (.pure 27 (.get (.get (.vv 0) (.il 0)) (.il 2)) (q 0 2)), (.pure 27 (.get (.get (.vv 0) (.il 0)) (.il 3)) (q 0 3)), (.pure 3 (.get (.vv 0) (.il 1)) (q 0 4))])), [.code (C 49 [])], [], .run, false, none⟩, [], ⟨0, 1, 1, z⟩⟩
noncomputable def s1 : SMach := ⟨⟨140, 18, (n (l (.yieldf 8)) z z (l (.int .i64 (.iv 0)))), [.code (C 140 [1, 1, 0, 0]), .inLoop (C 140 [1, 1, 0, 0]), .inBlock 0], [], .run, false, none⟩, [⟨98, 10, (m (.yieldf 8) (l (.addr 2 0)) (m (.addr 1 0) (l (.func 140 [] [])) z z z) (n (l (.agg [(.int .i64 (.toI (.get (.get (.vv 0) (.il 0)) (.il 0)))), (.pure 3 (.get (.get (.vv 0) (.il 0)) (.il 1)) (q 9 0)), (.pure 27 (.get (.get (.vv 0) (.il 0)) (.il 2)) (q 10 0)), (.pure 27 (.get (.get (.vv 0) (.il 0)) (.il 3)) (q 11 0)), (.pure 3 (.get (.vv 0) (.il 1)) (q 12 0))])) z z z) (m (.int .i64 (.il 1)) (l (.yieldf 8)) z z z)), [.dreg (O 98 []) [(5, [])]], [], .run, false, none⟩, ⟨81, 44, (n (n (l (.addr 3 0)) z z z) z (m (.addr 1 0) (l (.addr 5 0)) z z z) (n (l (.addr 6 0)) z z z)), [.inRangeFunc 8, .inBlock 0, .code (C 81 [1, 1, 1, 1])], [⟨.collected 7, []⟩], .run, false, none⟩, ⟨49, 6, (n z z (l (.agg [(.int .i64 (.toI (.get (.get (.vv 0) (.il 0)) (.il 0)))), (.pure 3 (.get (.get (.vv 0) (.il 0)) (.il 1)) (q 13 0)), (.pure 27 (.get (.get (.vv 0) (.il 0)) (.il 2)) (q 14 0)), (.pure 27 (.get (.get (.vv 0) (.il 0)) (.il 3)) (q 15 0)), (.pure 3 (.get (.vv 0) (.il 1)) (q 16 0))])) (l (.func 84 [] [(.addr 0 0)]))), [R 49 [1, 0] 2, .code .ret], [], .run, false, none⟩], ⟨10, 18, 3, (m (.cells [(.int .i64 (.toI (.get (.get (.vv 0) (.il 0)) (.il 0)))), (.pure 3 (.get (.get (.vv 0) (.il 0)) (.il 1)) (q 5 0)), (.pure 27 (.get (.get (.vv 0) (.il 0)) (.il 2)) (q 6 0)), (.pure 27 (.get (.get (.vv 0) (.il 0)) (.il 3)) (q 7 0)), (.pure 3 (.get (.vv 0) (.il 1)) (q 8 0))]) (m (.cells [(.int .i64 (.toI (.get (.get (.vv 0) (.il 0)) (.il 0)))), (.pure 3 (.get (.get (.vv 0) (.il 0)) (.il 1)) (q 1 0)), (.pure 27 (.get (.get (.vv 0) (.il 0)) (.il 2)) (q 2 0)), (.pure 27 (.get (.get (.vv 0) (.il 0)) (.il 3)) (q 3 0)), (.pure 3 (.get (.vv 0) (.il 1)) (q 4 0))]) (l (.cells [(.view 4)])) z z z) (m (.cells [(.int .i64 (.il 1))]) (l (.cells [(.pure 3 (.vv 1) (q 17 0))])) z z z) (m (.cells [(.func 84 [] [(.addr 0 0)])]) (l (.deferred (some []))) z z z) (m (.arr 27 (.vv 2) 0) (l (.loop ⟨.ready, none, 81, 44, (n (n (l (.addr 3 0)) z z z) z (m (.addr 1 0) (l (.addr 5 0)) z z z) (n (l (.addr 6 0)) z z z)), PA 81 [1, 1, 1, 0, 1, 0], (C 81 [1, 1, 1, 0, 1, 0, 0]), (C 81 [1, 1, 1, 0, 1, 0, 1]), 7⟩)) z z z))⟩⟩
noncomputable def s2 : SMach := ⟨⟨81, 44, (n (n (m (.addr 3 0) (l (.int .i64 (.il 0))) z z z) (l (.int .i64 (.iv 0))) z z) z (n (l (.addr 5 0)) z z z) (n (l (.addr 6 0)) z z (l (.int .i64 (.len (.get (.get (.vv 0) (.il 0)) (.il 1))))))), [.code (C 81 [1, 1, 1, 0, 1, 0, 1, 0, 0, 1, 0, 0]), .inLoop (C 81 [1, 1, 1, 0, 1, 0, 1, 0, 0, 1, 0, 0]), .inBlock 2, .code (C 81 [1, 1, 1, 0, 1, 0, 1, 0, 1]), .inBlock 1], [], .run, false, (some 8)⟩, [⟨140, 18, (n (m (.yieldf 8) z z (l (.int .i64 (.iv 0))) z) z (n z (l (.bool (.bl true))) z z) (m (.int .i64 (.iv 0)) z (l (.yieldf 8)) z z)), [R 140 [1, 1, 0, 0, 0, 0] 5, .code (C 140 [1, 1, 0, 0, 0, 1]), .code (C 140 [1, 1, 0, 0, 1]), .inLoop (C 140 [1, 1, 0, 0]), .inBlock 0], [], .run, false, none⟩, ⟨98, 10, (m (.yieldf 8) (l (.addr 2 0)) (m (.addr 1 0) (l (.func 140 [] [])) z z z) (n (l (.agg [(.int .i64 (.toI (.get (.get (.vv 0) (.il 0)) (.il 0)))), (.pure 3 (.get (.get (.vv 0) (.il 0)) (.il 1)) (q 25 0)), (.pure 27 (.get (.get (.vv 0) (.il 0)) (.il 2)) (q 26 0)), (.pure 27 (.get (.get (.vv 0) (.il 0)) (.il 3)) (q 27 0)), (.pure 3 (.get (.vv 0) (.il 1)) (q 28 0))])) z z z) (m (.int .i64 (.il 1)) (l (.yieldf 8)) z z z)), [.dreg (O 98 []) [(5, [])]], [], .run, false, none⟩, ⟨81, 44, (n (n (l (.addr 3 0)) z z z) z (m (.addr 1 0) (l (.addr 5 0)) z z z) (n (l (.addr 6 0)) z z z)), [.inRangeFunc 8, .inBlock 0, .code (C 81 [1, 1, 1, 1])], [⟨.collected 7, []⟩], .run, false, none⟩, ⟨49, 6, (n z z (l (.agg [(.int .i64 (.toI (.get (.get (.vv 0) (.il 0)) (.il 0)))), (.pure 3 (.get (.get (.vv 0) (.il 0)) (.il 1)) (q 29 0)), (.pure 27 (.get (.get (.vv 0) (.il 0)) (.il 2)) (q 30 0)), (.pure 27 (.get (.get (.vv 0) (.il 0)) (.il 3)) (q 31 0)), (.pure 3 (.get (.vv 0) (.il 1)) (q 32 0))])) (l (.func 84 [] [(.addr 0 0)]))), [R 49 [1, 0] 2, .code .ret], [], .run, false, none⟩], ⟨10, 34, 3, (m (.cells [(.int .i64 (.toI (.get (.get (.vv 0) (.il 0)) (.il 0)))), (.pure 3 (.get (.get (.vv 0) (.il 0)) (.il 1)) (q 17 0)), (.pure 27 (.get (.get (.vv 0) (.il 0)) (.il 2)) (q 18 0)), (.pure 27 (.get (.get (.vv 0) (.il 0)) (.il 3)) (q 19 0)), (.pure 3 (.get (.vv 0) (.il 1)) (q 20 0))]) (m (.cells [(.int .i64 (.toI (.get (.get (.vv 0) (.il 0)) (.il 0)))), (.pure 3 (.get (.get (.vv 0) (.il 0)) (.il 1)) (q 21 0)), (.pure 27 (.get (.get (.vv 0) (.il 0)) (.il 2)) (q 22 0)), (.pure 27 (.get (.get (.vv 0) (.il 0)) (.il 3)) (q 23 0)), (.pure 3 (.get (.vv 0) (.il 1)) (q 24 0))]) (l (.cells [(.view 4)])) z z z) (m (.cells [(.int .i64 (.il 1))]) (l (.cells [(.pure 3 (.vv 2) (q 33 0))])) z z z) (m (.cells [(.func 84 [] [(.addr 0 0)])]) (l (.deferred (some []))) z z z) (m (.arr 27 (.vv 1) 0) (l (.loop ⟨.busy, none, 81, 44, (n (n (l (.addr 3 0)) z z z) z (m (.addr 1 0) (l (.addr 5 0)) z z z) (n (l (.addr 6 0)) z z z)), PA 81 [1, 1, 1, 0, 1, 0], (C 81 [1, 1, 1, 0, 1, 0, 0]), (C 81 [1, 1, 1, 0, 1, 0, 1]), 7⟩)) z z z))⟩⟩
noncomputable def s3 : SMach := ⟨⟨81, 44, (n (n (m (.addr 3 0) (l (.int .i64 (.iv 0))) z z z) (l (.int .i64 (.iv 1))) z z) z (n (l (.addr 5 0)) z z z) (n (l (.addr 6 0)) z z (l (.int .i64 (.len (.get (.get (.vv 0) (.il 0)) (.il 1))))))), [.code (C 81 [1, 1, 1, 0, 1, 0, 1, 0, 0, 1, 0, 0]), .inLoop (C 81 [1, 1, 1, 0, 1, 0, 1, 0, 0, 1, 0, 0]), .inBlock 2, .code (C 81 [1, 1, 1, 0, 1, 0, 1, 0, 1]), .inBlock 1], [], .run, false, (some 8)⟩, [⟨140, 18, (n (m (.yieldf 8) z z (l (.int .i64 (.iv 1))) z) z (n z (l (.bool (.bl true))) z z) (m (.int .i64 (.iv 1)) z (l (.yieldf 8)) z z)), [R 140 [1, 1, 0, 0, 0, 0] 5, .code (C 140 [1, 1, 0, 0, 0, 1]), .code (C 140 [1, 1, 0, 0, 1]), .inLoop (C 140 [1, 1, 0, 0]), .inBlock 0], [], .run, false, none⟩, ⟨98, 10, (m (.yieldf 8) (l (.addr 2 0)) (m (.addr 1 0) (l (.func 140 [] [])) z z z) (n (l (.agg [(.int .i64 (.toI (.get (.get (.vv 0) (.il 0)) (.il 0)))), (.pure 3 (.get (.get (.vv 0) (.il 0)) (.il 1)) (q 41 0)), (.pure 27 (.get (.get (.vv 0) (.il 0)) (.il 2)) (q 42 0)), (.pure 27 (.get (.get (.vv 0) (.il 0)) (.il 3)) (q 43 0)), (.pure 3 (.get (.vv 0) (.il 1)) (q 44 0))])) z z z) (m (.int .i64 (.il 1)) (l (.yieldf 8)) z z z)), [.dreg (O 98 []) [(5, [])]], [], .run, false, none⟩, ⟨81, 44, (n (n (l (.addr 3 0)) z z z) z (m (.addr 1 0) (l (.addr 5 0)) z z z) (n (l (.addr 6 0)) z z z)), [.inRangeFunc 8, .inBlock 0, .code (C 81 [1, 1, 1, 1])], [⟨.collected 7, []⟩], .run, false, none⟩, ⟨49, 6, (n z z (l (.agg [(.int .i64 (.toI (.get (.get (.vv 0) (.il 0)) (.il 0)))), (.pure 3 (.get (.get (.vv 0) (.il 0)) (.il 1)) (q 45 0)), (.pure 27 (.get (.get (.vv 0) (.il 0)) (.il 2)) (q 46 0)), (.pure 27 (.get (.get (.vv 0) (.il 0)) (.il 3)) (q 47 0)), (.pure 3 (.get (.vv 0) (.il 1)) (q 48 0))])) (l (.func 84 [] [(.addr 0 0)]))), [R 49 [1, 0] 2, .code .ret], [], .run, false, none⟩], ⟨14, 50, 4, (m (.cells [(.int .i64 (.toI (.get (.get (.vv 0) (.il 0)) (.il 0)))), (.pure 3 (.get (.get (.vv 0) (.il 0)) (.il 1)) (q 33 0)), (.pure 27 (.get (.get (.vv 0) (.il 0)) (.il 2)) (q 34 0)), (.pure 27 (.get (.get (.vv 0) (.il 0)) (.il 3)) (q 35 0)), (.pure 3 (.get (.vv 0) (.il 1)) (q 36 0))]) (m (.cells [(.int .i64 (.toI (.get (.get (.vv 0) (.il 0)) (.il 0)))), (.pure 3 (.get (.get (.vv 0) (.il 0)) (.il 1)) (q 37 0)), (.pure 27 (.get (.get (.vv 0) (.il 0)) (.il 2)) (q 38 0)), (.pure 27 (.get (.get (.vv 0) (.il 0)) (.il 3)) (q 39 0)), (.pure 3 (.get (.vv 0) (.il 1)) (q 40 0))]) (l (.cells [(.view 4)])) z (l (.arr 3 (.vv 1) 0)) z) (m (.cells [(.int .i64 (.il 1))]) (l (.cells [(.pure 3 (.vv 3) (q 49 0))])) z z z) (m (.cells [(.func 84 [] [(.addr 0 0)])]) (l (.deferred (some []))) z z z) (m (.arrH 27 3 (.vv 2) (.iv 1) 13) (l (.loop ⟨.busy, none, 81, 44, (n (n (l (.addr 3 0)) z z z) z (m (.addr 1 0) (l (.addr 5 0)) z z z) (n (l (.addr 6 0)) z z z)), PA 81 [1, 1, 1, 0, 1, 0], (C 81 [1, 1, 1, 0, 1, 0, 0]), (C 81 [1, 1, 1, 0, 1, 0, 1]), 7⟩)) z z z))⟩⟩
noncomputable def s4 : SMach := ⟨⟨84, 41, (m (.int .i64 (.iv 1)) (m (.int .i64 (.iv 2)) z z (l (.pure 3 (.vv 3) (q 38 0))) z) (n z z (l (.int .i64 (.iv 3))) z) (m (.addr 0 0) z z (l (.int .i64 (.iv 5))) z) (n (l (.int .i64 (.iv 4))) z z z)), [.code (C 84 [1, 1, 1, 0, 1, 0, 0]), .inLoop (C 84 [1, 1, 1, 0, 1, 0, 0]), .inBlock 0, .code (C 84 [1, 1, 1, 1])], [], .run, false, none⟩, [⟨81, 44, (n (n (m (.addr 3 0) (l (.int .i64 (.iv 2))) z z z) (m (.int .i64 (.iv 1)) (l (.int .i64 (.iv 1))) z z z) (n (l (.view 10)) z z z) (n (l (.pure 3 (.vv 3) (q 40 0))) z z z)) (n z (m (.int .i64 (.iv 2)) (l (.view 4)) z z z) (n (l (.func 84 [] [(.addr 0 0)])) z z z) z) (n (l (.addr 5 0)) (n (l (.int .i64 (.iv 1))) z z z) (n (l (.int .i64 (.iv 1))) z z z) z) (n (m (.addr 6 0) (l (.view 4)) z z z) (n (l (.addrE 4 (.iv 1) 0)) z z z) (n (l (.int .i64 (.iv 2))) z z z) (l (.int .i64 (.len (.get (.get (.vv 0) (.il 0)) (.il 1))))))), [.dreg (O 81 [1, 1, 1, 0, 1, 0, 1, 0, 0, 1, 0, 0, 1, 1, 0, 0, 1]) [(10, [0, 2, 5]), (11, []), (12, [0]), (13, []), (14, [])], .inBlock 3, .code (C 81 [1, 1, 1, 0, 1, 0, 1, 0, 0, 1, 0, 0, 1, 1, 1]), .inLoop (C 81 [1, 1, 1, 0, 1, 0, 1, 0, 0, 1, 0, 0]), .inBlock 2, .code (C 81 [1, 1, 1, 0, 1, 0, 1, 0, 1]), .inBlock 1], [], .run, false, (some 8)⟩, ⟨140, 18, (n (m (.yieldf 8) z z (l (.int .i64 (.iv 1))) z) z (n z (l (.bool (.bl true))) z z) (m (.int .i64 (.iv 1)) z (l (.yieldf 8)) z z)), [R 140 [1, 1, 0, 0, 0, 0] 5, .code (C 140 [1, 1, 0, 0, 0, 1]), .code (C 140 [1, 1, 0, 0, 1]), .inLoop (C 140 [1, 1, 0, 0]), .inBlock 0], [], .run, false, none⟩, ⟨98, 10, (m (.yieldf 8) (l (.addr 2 0)) (m (.addr 1 0) (l (.func 140 [] [])) z z z) (n (l (.agg [(.int .i64 (.toI (.get (.get (.vv 0) (.il 0)) (.il 0)))), (.pure 3 (.get (.get (.vv 0) (.il 0)) (.il 1)) (q 45 0)), (.pure 27 (.get (.get (.vv 0) (.il 0)) (.il 2)) (q 46 0)), (.pure 27 (.get (.get (.vv 0) (.il 0)) (.il 3)) (q 47 0)), (.pure 3 (.get (.vv 0) (.il 1)) (q 48 0))])) z z z) (m (.int .i64 (.il 1)) (l (.yieldf 8)) z z z)), [.dreg (O 98 []) [(5, [])]], [], .run, false, none⟩, ⟨81, 44, (n (n (l (.addr 3 0)) z z z) z (m (.addr 1 0) (l (.addr 5 0)) z z z) (n (l (.addr 6 0)) z z z)), [.inRangeFunc 8, .inBlock 0, .code (C 81 [1, 1, 1, 1])], [⟨.collected 7, []⟩], .run, false, none⟩, ⟨49, 6, (n z z (l (.agg [(.int .i64 (.toI (.get (.get (.vv 0) (.il 0)) (.il 0)))), (.pure 3 (.get (.get (.vv 0) (.il 0)) (.il 1)) (q 49 0)), (.pure 27 (.get (.get (.vv 0) (.il 0)) (.il 2)) (q 50 0)), (.pure 27 (.get (.get (.vv 0) (.il 0)) (.il 3)) (q 51 0)), (.pure 3 (.get (.vv 0) (.il 1)) (q 52 0))])) (l (.func 84 [] [(.addr 0 0)]))), [R 49 [1, 0] 2, .code .ret], [], .run, false, none⟩], ⟨12, 53, 6, (m (.cells [(.int .i64 (.toI (.get (.get (.vv 0) (.il 0)) (.il 0)))), (.pure 3 (.get (.get (.vv 0) (.il 0)) (.il 1)) (q 34 0)), (.pure 27 (.get (.get (.vv 0) (.il 0)) (.il 2)) (q 35 0)), (.pure 27 (.get (.get (.vv 0) (.il 0)) (.il 3)) (q 36 0)), (.pure 3 (.get (.vv 0) (.il 1)) (q 37 0))]) (m (.cells [(.int .i64 (.toI (.get (.get (.vv 0) (.il 0)) (.il 0)))), (.pure 3 (.get (.get (.vv 0) (.il 0)) (.il 1)) (q 41 0)), (.pure 27 (.get (.get (.vv 0) (.il 0)) (.il 2)) (q 42 0)), (.pure 27 (.get (.get (.vv 0) (.il 0)) (.il 3)) (q 43 0)), (.pure 3 (.get (.vv 0) (.il 1)) (q 44 0))]) (l (.cells [(.view 4)])) z z z) (m (.cells [(.int .i64 (.il 1))]) (l (.cells [(.pure 3 (.vv 3) (q 39 0))])) (l (.arr 3 (.vv 5) 0)) z z) (m (.cells [(.func 84 [] [(.addr 0 0)])]) (l (.deferred (some []))) z z z) (m (.arrH 27 3 (.vv 4) (.iv 1) 10) (l (.loop ⟨.busy, none, 81, 44, (n (n (l (.addr 3 0)) z z z) z (m (.addr 1 0) (l (.addr 5 0)) z z z) (n (l (.addr 6 0)) z z z)), PA 81 [1, 1, 1, 0, 1, 0], (C 81 [1, 1, 1, 0, 1, 0, 0]), (C 81 [1, 1, 1, 0, 1, 0, 1]), 7⟩)) z z z))⟩⟩
theorem p0 : stretch K 58 [] s0 s1 [] ⟨[(.sub (.len (.get (.vv 0) (.il 1))) (.il 1))], [], [(.vv 0), .nil, (.rep (.len (.get (.vv 0) (.il 1))) .nil)], [(q 0 0), (q 0 1), (q 0 2), (q 0 3), (q 0 4), (q 0 1), (q 0 2), (q 0 3), (q 0 4), (q 0 1), (q 0 2), (q 0 3), (q 0 4), (q 0 1), (q 0 2), (q 0 3), (q 0 4), .nil]⟩ [(8, (some 8)), (1, (some 1)), (3, (some 3)), (0, (some 0)), (5, (some 5)), (4, (some 4)), (6, (some 6)), (7, (some 7)), (2, (some 2))] = some (s1, [.ask (.and (.le (.il 0) (.len (.get (.vv 0) (.il 1)))) (.le (.len (.get (.vv 0) (.il 1))) (.il 5864062014805))), .ask (FT (.sub (.len (.get (.vv 0) (.il 1))) (.il 1)))]) := by kernel_rfl
theorem p1 : stretch K 25 [true] s1 s2 [] ⟨[(.iv 0)], [], [(.vv 0), (.vv 2), (.vv 1)], [(q 0 0), (q 1 0), (q 2 0), (q 3 0), (q 4 0), (q 5 0), (q 6 0), (q 7 0), (q 8 0), (q 9 0), (q 10 0), (q 11 0), (q 12 0), (q 13 0), (q 14 0), (q 15 0), (q 16 0), (q 5 0), (q 6 0), (q 7 0), (q 8 0), (q 1 0), (q 2 0), (q 3 0), (q 4 0), (q 9 0), (q 10 0), (q 11 0), (q 12 0), (q 13 0), (q 14 0), (q 15 0), (q 16 0), (q 17 0)]⟩ [(3, (some 3)), (0, (some 0)), (5, (some 5)), (4, (some 4)), (6, (some 6)), (8, (some 8)), (1, (some 1)), (7, (some 7)), (2, (some 2))] = some (s2, [.ask (.le (.il 0) (.iv 0))]) := by kernel_rfl
theorem p2 : last K 49 31 [false] s1 = some ((.vv 2), [.ask (.not (.le (.il 0) (.iv 0)))]) := by kernel_rfl
theorem p3 : stretch K 54 [true, true] s2 s3 [] ⟨[(.il 1), (.iv 0)], [], [(.vv 0), (.snoc .nil (.ofI (.il 1))), (.vv 1), (.vv 2)], [(q 0 0), (q 1 0), (q 2 0), (q 3 0), (q 4 0), (q 5 0), (q 6 0), (q 7 0), (q 8 0), (q 9 0), (q 10 0), (q 11 0), (q 12 0), (q 13 0), (q 14 0), (q 15 0), (q 16 0), (q 17 0), (q 18 0), (q 19 0), (q 20 0), (q 21 0), (q 22 0), (q 23 0), (q 24 0), (q 25 0), (q 26 0), (q 27 0), (q 28 0), (q 29 0), (q 30 0), (q 31 0), (q 32 0), (q 17 0), (q 18 0), (q 19 0), (q 20 0), (q 21 0), (q 22 0), (q 23 0), (q 24 0), (q 25 0), (q 26 0), (q 27 0), (q 28 0), (q 29 0), (q 30 0), (q 31 0), (q 32 0), (q 33 0)]⟩ [(3, (some 3)), (0, (some 0)), (5, (some 5)), (4, (some 4)), (13, (some 13)), (6, (some 6)), (8, (some 8)), (1, (some 1)), (7, (some 7)), (2, (some 2))] = some (s3, [.ask (.lt (.il 0) (.len (.get (.get (.vv 0) (.il 0)) (.il 1)))), .ask (IB (.iv 0) (.vv 1)), .ask (.isNil (.get (.vv 1) (.iv 0))), .ask (IB (.iv 0) (.vv 1)), .ask (IB (.iv 0) (.vv 1)), .ask (.isNil (.vv 2)), .ask (IB (.iv 0) (.vv 1)), .ask (IB (.iv 0) (.vv 1)), .ask (IB (.iv 0) (.vv 1))]) := by kernel_rfl
theorem p4 : stretch K 51 [true, false] s2 s4 [] ⟨[(.iv 0), (.iv 0), (.il 0), (.len (.vv 2)), (.il 0), (.il 0)], [], [(.vv 0), (.vv 1), (.vv 2), (.vv 2), (.vv 1), .nil], [(q 0 0), (q 1 0), (q 2 0), (q 3 0), (q 4 0), (q 5 0), (q 6 0), (q 7 0), (q 8 0), (q 9 0), (q 10 0), (q 11 0), (q 12 0), (q 13 0), (q 14 0), (q 15 0), (q 16 0), (q 17 0), (q 18 0), (q 19 0), (q 20 0), (q 21 0), (q 22 0), (q 23 0), (q 24 0), (q 25 0), (q 26 0), (q 27 0), (q 28 0), (q 29 0), (q 30 0), (q 31 0), (q 32 0), (q 33 0), (q 17 0), (q 18 0), (q 19 0), (q 20 0), (q 33 0), (q 33 0), (q 33 0), (q 21 0), (q 22 0), (q 23 0), (q 24 0), (q 25 0), (q 26 0), (q 27 0), (q 28 0), (q 29 0), (q 30 0), (q 31 0), (q 32 0)]⟩ [(0, (some 0)), (3, (some 3)), (5, (some 5)), (4, (some 4)), (10, (some 10)), (6, (some 6)), (8, (some 8)), (1, (some 1)), (7, (some 7)), (2, (some 2))] = some (s4, [.ask (.lt (.il 0) (.len (.get (.get (.vv 0) (.il 0)) (.il 1)))), .ask (IB (.iv 0) (.vv 1)), .ask (.isNil (.get (.vv 1) (.iv 0))), .ask (IB (.iv 0) (.vv 1)), .ask (IB (.iv 0) (.vv 1)), .ask (.not (.isNil (.vv 2)))]) := by kernel_rfl
theorem p6 : stretch K 54 [true, true] s3 s3 [] ⟨[(.add (.iv 0) (.il 1)), (.iv 1)], [], [(.vv 0), (.snoc (.vv 1) (.ofI (.il 1))), (.vv 2), (.vv 3)], [(q 0 0), (q 1 0), (q 2 0), (q 3 0), (q 4 0), (q 5 0), (q 6 0), (q 7 0), (q 8 0), (q 9 0), (q 10 0), (q 11 0), (q 12 0), (q 13 0), (q 14 0), (q 15 0), (q 16 0), (q 17 0), (q 18 0), (q 19 0), (q 20 0), (q 21 0), (q 22 0), (q 23 0), (q 24 0), (q 25 0), (q 26 0), (q 27 0), (q 28 0), (q 29 0), (q 30 0), (q 31 0), (q 32 0), (q 33 0), (q 34 0), (q 35 0), (q 36 0), (q 37 0), (q 38 0), (q 39 0), (q 40 0), (q 41 0), (q 42 0), (q 43 0), (q 44 0), (q 45 0), (q 46 0), (q 47 0), (q 48 0), (q 49 0)]⟩ [(3, (some 3)), (0, (some 0)), (5, (some 5)), (4, (some 4)), (13, (some 15)), (6, (some 6)), (8, (some 8)), (1, (some 1)), (7, (some 7)), (2, (some 2))] = some (s3, [.ask (.lt (.iv 0) (.len (.get (.get (.vv 0) (.il 0)) (.il 1)))), .ask (IB (.iv 1) (.vv 2)), .ask (IB (.iv 1) (.vv 2)), .ask (.isNil (.vv 3)), .ask (IB (.iv 1) (.vv 2)), .ask (.le (.add (.len (.vv 1)) (.il 1)) (.il 8796093021696)), .ask (IB (.iv 1) (.vv 2)), .ask (IB (.iv 1) (.vv 2)), .ask (FT (.add (.iv 0) (.il 1)))]) := by kernel_rfl
theorem p7 : stretch K 51 [true, false] s3 s4 [] ⟨[(.iv 0), (.iv 1), (.iv 0), (.len (.vv 3)), (.il 0), (.il 0)], [], [(.vv 0), (.vv 1), (.vv 2), (.vv 3), (.vv 2), (.vv 1)], [(q 0 0), (q 1 0), (q 2 0), (q 3 0), (q 4 0), (q 5 0), (q 6 0), (q 7 0), (q 8 0), (q 9 0), (q 10 0), (q 11 0), (q 12 0), (q 13 0), (q 14 0), (q 15 0), (q 16 0), (q 17 0), (q 18 0), (q 19 0), (q 20 0), (q 21 0), (q 22 0), (q 23 0), (q 24 0), (q 25 0), (q 26 0), (q 27 0), (q 28 0), (q 29 0), (q 30 0), (q 31 0), (q 32 0), (q 33 0), (q 33 0), (q 34 0), (q 35 0), (q 36 0), (q 49 0), (q 49 0), (q 49 0), (q 37 0), (q 38 0), (q 39 0), (q 40 0), (q 41 0), (q 42 0), (q 43 0), (q 44 0), (q 45 0), (q 46 0), (q 47 0), (q 48 0)]⟩ [(0, (some 0)), (3, (some 3)), (5, (some 5)), (4, (some 4)), (10, (some 13)), (6, (some 6)), (8, (some 8)), (1, (some 1)), (7, (some 7)), (2, (some 2))] = some (s4, [.ask (.lt (.iv 0) (.len (.get (.get (.vv 0) (.il 0)) (.il 1)))), .ask (IB (.iv 1) (.vv 2)), .ask (IB (.iv 1) (.vv 2)), .ask (.not (.isNil (.vv 3)))]) := by kernel_rfl
theorem p8 : stretch K 30 [false] s3 s1 [] ⟨[(.sub (.iv 1) (.il 1))], [], [(.vv 0), (.get (.set (.vv 2) (.iv 1) (.vv 1)) (.iv 1)), (.set (.vv 2) (.iv 1) (.vv 1))], [(q 0 0), (q 37 0), (q 38 0), (q 39 0), (q 40 0), (q 33 0), (q 34 0), (q 35 0), (q 36 0), (q 41 0), (q 42 0), (q 43 0), (q 44 0), (q 45 0), (q 46 0), (q 47 0), (q 48 0), (.elB 4 14 (.iv 1) 1 0)]⟩ [(8, (some 8)), (1, (some 1)), (3, (some 3)), (0, (some 0)), (5, (some 5)), (4, (some 4)), (6, (some 6)), (7, (some 7)), (2, (some 2))] = some (s1, [.ask (.not (.lt (.iv 0) (.len (.get (.get (.vv 0) (.il 0)) (.il 1))))), .ask (IB (.iv 1) (.vv 2)), .ask (IB (.iv 1) (.vv 2)), .ask (FT (.sub (.iv 1) (.il 1)))]) := by kernel_rfl
theorem p9 : stretch K 45 [true] s4 s4 [] ⟨[(.iv 0), (.iv 1), (.iv 2), (.iv 3), (.add (.iv 4) (.mul (.mul (.toI (.get (.get (.get (.get (.vv 0) (.il 0)) (.il 2)) (.iv 2)) (.iv 5))) (.toI (.vv 6))) (.toI (.get (.vv 3) (.iv 5))))), (.add (.iv 5) (.il 1))], [], [(.vv 0), (.vv 1), (.vv 2), (.vv 3), (.vv 4), (.vv 5)], [(q 0 0), (q 1 0), (q 2 0), (q 3 0), (q 4 0), (q 5 0), (q 6 0), (q 7 0), (q 8 0), (q 9 0), (q 10 0), (q 11 0), (q 12 0), (q 13 0), (q 14 0), (q 15 0), (q 16 0), (q 17 0), (q 18 0), (q 19 0), (q 20 0), (q 21 0), (q 22 0), (q 23 0), (q 24 0), (q 25 0), (q 26 0), (q 27 0), (q 28 0), (q 29 0), (q 30 0), (q 31 0), (q 32 0), (q 33 0), (q 34 0), (q 35 0), (q 36 0), (q 37 0), (q 38 0), (q 39 0), (q 40 0), (q 41 0), (q 42 0), (q 43 0), (q 44 0), (q 45 0), (q 46 0), (q 47 0), (q 48 0), (q 49 0), (q 50 0), (q 51 0), (q 52 0)]⟩ [(0, (some 0)), (3, (some 3)), (5, (some 5)), (4, (some 4)), (10, (some 10)), (6, (some 6)), (8, (some 8)), (1, (some 1)), (7, (some 7)), (2, (some 2))] = some (s4, [.ask (.lt (.iv 5) (.iv 3)), .ask (IB (.iv 5) (.vv 3)), .ask (IB (.iv 2) (.get (.get (.vv 0) (.il 0)) (.il 2))), .ask (IB (.iv 5) (.get (.get (.get (.vv 0) (.il 0)) (.il 2)) (.iv 2))), .ask (FT (.add (.iv 1) (.il 1))), .call 83 [(.snoc (.snoc .emp (.snoc (.snoc (.snoc (.snoc .emp (.ofI (.toI (.get (.get (.vv 0) (.il 0)) (.il 0))))) (.get (.get (.vv 0) (.il 0)) (.il 1))) (.get (.get (.vv 0) (.il 0)) (.il 2))) (.get (.get (.vv 0) (.il 0)) (.il 3)))) (.get (.vv 0) (.il 1))), (.ofI (.add (.iv 1) (.il 1))), (.ofI (.iv 5))], .ask (FT (.mul (.toI (.get (.get (.get (.get (.vv 0) (.il 0)) (.il 2)) (.iv 2)) (.iv 5))) (.toI (.vv 6)))), .ask (FT (.mul (.mul (.toI (.get (.get (.get (.get (.vv 0) (.il 0)) (.il 2)) (.iv 2)) (.iv 5))) (.toI (.vv 6))) (.toI (.get (.vv 3) (.iv 5))))), .ask (FT (.add (.iv 4) (.mul (.mul (.toI (.get (.get (.get (.get (.vv 0) (.il 0)) (.il 2)) (.iv 2)) (.iv 5))) (.toI (.vv 6))) (.toI (.get (.vv 3) (.iv 5)))))), .ask (FT (.add (.iv 5) (.il 1)))]) := by kernel_rfl
theorem p10 : stretch K 25 [false] s4 s3 [] ⟨[(.add (.iv 2) (.il 1)), (.iv 1)], [], [(.vv 0), (.snoc (.vv 5) (.ofI (.iv 4))), (.vv 4), (.vv 3)], [(q 0 0), (q 1 0), (q 2 0), (q 3 0), (q 4 0), (q 5 0), (q 6 0), (q 7 0), (q 8 0), (q 9 0), (q 10 0), (q 11 0), (q 12 0), (q 13 0), (q 14 0), (q 15 0), (q 16 0), (q 17 0), (q 18 0), (q 19 0), (q 20 0), (q 21 0), (q 22 0), (q 23 0), (q 24 0), (q 25 0), (q 26 0), (q 27 0), (q 28 0), (q 29 0), (q 30 0), (q 31 0), (q 32 0), (q 34 0), (q 35 0), (q 36 0), (q 37 0), (q 41 0), (q 42 0), (q 43 0), (q 44 0), (q 45 0), (q 46 0), (q 47 0), (q 48 0), (q 49 0), (q 50 0), (q 51 0), (q 52 0), (q 39 0)]⟩ [(3, (some 3)), (0, (some 0)), (5, (some 5)), (4, (some 4)), (13, (some 13)), (6, (some 6)), (8, (some 8)), (1, (some 1)), (7, (some 7)), (2, (some 2))] = some (s3, [.ask (.not (.lt (.iv 5) (.iv 3))), .ask (IB (.iv 1) (.vv 4)), .ask (.le (.add (.len (.vv 5)) (.il 1)) (.il 8796093021696)), .ask (IB (.iv 1) (.vv 4)), .ask (IB (.iv 1) (.vv 4)), .ask (FT (.add (.iv 2) (.il 1)))]) := by kernel_rfl
theorem b : sbegin prog 49 = some s0 := by kernel_rfl
end backward
end X
namespace X
open Go Go.Abs Go.Sym
namespace hForward
abbrev f : Nat := 15
noncomputable def K : Cfg := ⟨prog, pl, [], [47, 48], []⟩
noncomputable def s0 : SMach := ⟨⟨15, 19, (m (.agg [(.int .i64 (.toI (.get (.vv 0) (.il 0)))), (.pure 3 (.get (.vv 0) (.il 1)) (q 0 1)), (.pure 27 (.get (.vv 0) (.il 2)) (q 0 2)), (.pure 27 (.get (.vv 0) (.il 3)) (q 0 3))]) (l (.pure 3 (.vv 1) (q 1 0))) z z z), [.code (C 15 [])], [], .run, false, none⟩, [], ⟨0, 2, 2, z⟩⟩
theorem p0 : last K 15 32 [true] s0 = some ((.snoc (.snoc .emp .nil) (.ofI (.toI (.get (.vv 2) (.il 1))))), [.call 47 [(.snoc (.snoc (.snoc (.snoc .emp (.ofI (.toI (.get (.vv 0) (.il 0))))) (.get (.vv 0) (.il 1))) (.get (.vv 0) (.il 2))) (.get (.vv 0) (.il 3))), (.vv 1)], .ask (.not (.eq (.toI (.get (.vv 2) (.il 1))) (.il 0)))]) := by kernel_rfl
theorem p1 : last K 15 34 [false] s0 = some ((.snoc (.snoc .emp (.vv 3)) (.ofI (.il 0))), [.call 47 [(.snoc (.snoc (.snoc (.snoc .emp (.ofI (.toI (.get (.vv 0) (.il 0))))) (.get (.vv 0) (.il 1))) (.get (.vv 0) (.il 2))) (.get (.vv 0) (.il 3))), (.vv 1)], .ask (.not (.not (.eq (.toI (.get (.vv 2) (.il 1))) (.il 0)))), .call 48 [(.snoc (.snoc .emp (.snoc (.snoc (.snoc (.snoc .emp (.ofI (.toI (.get (.get (.get (.vv 2) (.il 0)) (.il 0)) (.il 0))))) (.get (.get (.get (.vv 2) (.il 0)) (.il 0)) (.il 1))) (.get (.get (.get (.vv 2) (.il 0)) (.il 0)) (.il 2))) (.get (.get (.get (.vv 2) (.il 0)) (.il 0)) (.il 3)))) (.get (.get (.vv 2) (.il 0)) (.il 1)))]]) := by kernel_rfl
theorem b : sbegin prog 15 = some s0 := by kernel_rfl
end hForward
end X
namespace X
open Go Go.Abs Go.Sym
namespace hBackward
abbrev f : Nat := 16
noncomputable def K : Cfg := ⟨prog, pl, [], [47, 49], []⟩
noncomputable def s0 : SMach := ⟨⟨16, 19, (m (.agg [(.int .i64 (.toI (.get (.vv 0) (.il 0)))), (.pure 3 (.get (.vv 0) (.il 1)) (q 0 1)), (.pure 27 (.get (.vv 0) (.il 2)) (q 0 2)), (.pure 27 (.get (.vv 0) (.il 3)) (q 0 3))]) (l (.pure 3 (.vv 1) (q 1 0))) z z z), [.code (C 16 [])], [], .run, false, none⟩, [], ⟨0, 2, 2, z⟩⟩
theorem p0 : last K 16 32 [true] s0 = some ((.snoc (.snoc .emp .nil) (.ofI (.toI (.get (.vv 2) (.il 1))))), [.call 47 [(.snoc (.snoc (.snoc (.snoc .emp (.ofI (.toI (.get (.vv 0) (.il 0))))) (.get (.vv 0) (.il 1))) (.get (.vv 0) (.il 2))) (.get (.vv 0) (.il 3))), (.vv 1)], .ask (.not (.eq (.toI (.get (.vv 2) (.il 1))) (.il 0)))]) := by kernel_rfl
theorem p1 : last K 16 34 [false] s0 = some ((.snoc (.snoc .emp (.vv 3)) (.ofI (.il 0))), [.call 47 [(.snoc (.snoc (.snoc (.snoc .emp (.ofI (.toI (.get (.vv 0) (.il 0))))) (.get (.vv 0) (.il 1))) (.get (.vv 0) (.il 2))) (.get (.vv 0) (.il 3))), (.vv 1)], .ask (.not (.not (.eq (.toI (.get (.vv 2) (.il 1))) (.il 0)))), .call 49 [(.snoc (.snoc .emp (.snoc (.snoc (.snoc (.snoc .emp (.ofI (.toI (.get (.get (.get (.vv 2) (.il 0)) (.il 0)) (.il 0))))) (.get (.get (.get (.vv 2) (.il 0)) (.il 0)) (.il 1))) (.get (.get (.get (.vv 2) (.il 0)) (.il 0)) (.il 2))) (.get (.get (.get (.vv 2) (.il 0)) (.il 0)) (.il 3)))) (.get (.get (.vv 2) (.il 0)) (.il 1)))]]) := by kernel_rfl
theorem b : sbegin prog 16 = some s0 := by kernel_rfl
end hBackward
end X
namespace X
open Go Go.Abs Go.Sym
namespace SameTable
abbrev f : Nat := 18
noncomputable def K : Cfg := ⟨prog, pl, [], [51], []⟩
noncomputable def s0 : SMach := ⟨⟨18, 27, (m (.pure 27 (.vv 0) (q 0 0)) (l (.pure 27 (.vv 1) (q 1 0))) z z z), [.code (C 18 [])], [], .run, false, none⟩, [], ⟨0, 2, 2, z⟩⟩
noncomputable def s1 : SMach := ⟨⟨18, 27, (m (.pure 27 (.vv 0) (q 2 0)) (m (.pure 27 (.vv 1) (q 3 0)) (l (.int .i64 (.iv 0))) z z z) z z z), [.code (C 18 [1, 1, 0, 1, 0, 0]), .inLoop (C 18 [1, 1, 0, 1, 0, 0]), .inBlock 0, .code (C 18 [1, 1, 1])], [], .run, false, none⟩, [], ⟨0, 4, 2, z⟩⟩
theorem p1 : stretch K 22 [false] s0 s1 [] ⟨[(.il 0)], [], [(.vv 0), (.vv 1)], [(q 0 0), (q 1 0), (q 0 0), (q 1 0)]⟩ [] = some (s1, [.ask (.not (.not (.eq (.len (.vv 0)) (.len (.vv 1)))))]) := by kernel_rfl
theorem p3 : stretch K 34 [true, false] s1 s1 [] ⟨[(.add (.iv 0) (.il 1))], [], [(.vv 0), (.vv 1)], [(q 0 0), (q 1 0), (q 2 0), (q 3 0)]⟩ [] = some (s1, [.ask (.lt (.iv 0) (.len (.vv 0))), .ask (IB (.iv 0) (.vv 0)), .ask (IB (.iv 0) (.vv 1)), .call 51 [(.get (.vv 0) (.iv 0)), (.get (.vv 1) (.iv 0))], .ask (.not (.not (.toB (.vv 2)))), .ask (FT (.add (.iv 0) (.il 1)))]) := by kernel_rfl
theorem p4 : last K 18 15 [false] s1 = some ((.ofB (.bl true)), [.ask (.not (.lt (.iv 0) (.len (.vv 0))))]) := by kernel_rfl
theorem b : sbegin prog 18 = some s0 := by kernel_rfl
end SameTable
end X
namespace X
open Go Go.Abs Go.Sym
namespace ref02_Same
abbrev f : Nat := 51
noncomputable def K : Cfg := ⟨prog, pl, [], [], []⟩
noncomputable def s0 : SMach := ⟨⟨51, 26, (m (.pure 3 (.vv 0) (q 0 0)) (l (.pure 3 (.vv 1) (q 1 0))) z z z), [.code (C 51 [])], [], .run, false, none⟩, [], ⟨0, 2, 2, z⟩⟩
noncomputable def s1 : SMach := ⟨⟨51, 26, (m (.pure 3 (.vv 0) (q 2 0)) (m (.pure 3 (.vv 1) (q 3 0)) (l (.int .i64 (.iv 0))) z z z) z z z), [.code (C 51 [1, 1, 0, 1, 0, 0]), .inLoop (C 51 [1, 1, 0, 1, 0, 0]), .inBlock 0, .code (C 51 [1, 1, 1])], [], .run, false, none⟩, [], ⟨0, 4, 2, z⟩⟩
theorem p1 : stretch K 22 [false] s0 s1 [] ⟨[(.il 0)], [], [(.vv 0), (.vv 1)], [(q 0 0), (q 1 0), (q 0 0), (q 1 0)]⟩ [] = some (s1, [.ask (.not (.not (.eq (.len (.vv 0)) (.len (.vv 1)))))]) := by kernel_rfl
theorem p3 : stretch K 33 [true, false] s1 s1 [] ⟨[(.add (.iv 0) (.il 1))], [], [(.vv 0), (.vv 1)], [(q 0 0), (q 1 0), (q 2 0), (q 3 0)]⟩ [] = some (s1, [.ask (.lt (.iv 0) (.len (.vv 0))), .ask (IB (.iv 0) (.vv 0)), .ask (IB (.iv 0) (.vv 1)), .ask (.not (.not (.eq (.toI (.get (.vv 0) (.iv 0))) (.toI (.get (.vv 1) (.iv 0)))))), .ask (FT (.add (.iv 0) (.il 1)))]) := by kernel_rfl
theorem p4 : last K 51 15 [false] s1 = some ((.ofB (.bl true)), [.ask (.not (.lt (.iv 0) (.len (.vv 0))))]) := by kernel_rfl
theorem b : sbegin prog 51 = some s0 := by kernel_rfl
end ref02_Same
end X
namespace X
open Go Go.Abs Go.Sym
namespace HiddenTables
abbrev f : Nat := 3
noncomputable def K : Cfg := ⟨prog, pl, [], [10, 11, 12, 13, 14, 15, 16, 17, 18, 19, 20], []⟩
noncomputable def s0 : SMach := ⟨⟨3, 109, (m (.agg [(.int .u8 (.toI (.get (.vv 0) (.il 0)))), (.int .u8 (.toI (.get (.vv 0) (.il 1)))), (.int .u8 (.toI (.get (.vv 0) (.il 2)))), (.pure 5 (.get (.vv 0) (.il 3)) (q 0 3)), (.pure 5 (.get (.vv 0) (.il 4)) (q 0 4))]) (l (.agg [(.int .u8 (.toI (.get (.vv 1) (.il 0)))), (.int .u8 (.toI (.get (.vv 1) (.il 1)))), (.int .u8 (.toI (.get (.vv 1) (.il 2)))), (.int .i64 (.toI (.get (.vv 1) (.il 3))))])) (l (.agg [(.int .i64 (.toI (.get (.vv 2) (.il 0)))), (.pure 3 (.get (.vv 2) (.il 1)) (q 2 1)), (.pure 27 (.get (.vv 2) (.il 2)) (q 2 2)), (.pure 27 (.get (.vv 2) (.il 3)) (q 2 3))])) (l (.pure 3 (.vv 3) (q 3 0))) z), [.code (C 3 [])], [], .run, false, none⟩, [], ⟨0, 4, 4, z⟩⟩
noncomputable def s1 : SMach := ⟨⟨3, 109, (n z z (m (.pure 3 (.vv 3) (q 6 0)) (n (l (.agg [(.int .i64 (.toI (.get (.get (.vv 5) (.il 0)) (.il 0)))), (.pure 3 (.get (.get (.vv 5) (.il 0)) (.il 1)) (q 9 0)), (.pure 27 (.get (.get (.vv 5) (.il 0)) (.il 2)) (q 10 0)), (.pure 27 (.get (.get (.vv 5) (.il 0)) (.il 3)) (q 11 0)), (.int .i64 (.toI (.get (.get (.vv 5) (.il 1)) (.il 0)))), (.pure 3 (.get (.get (.vv 5) (.il 1)) (.il 1)) (q 12 0)), (.pure 27 (.get (.get (.vv 5) (.il 1)) (.il 2)) (q 13 0)), (.pure 27 (.get (.get (.vv 5) (.il 1)) (.il 3)) (q 14 0)), (.int .i64 (.toI (.get (.get (.vv 5) (.il 2)) (.il 0)))), (.pure 3 (.get (.get (.vv 5) (.il 2)) (.il 1)) (q 15 0)), (.pure 27 (.get (.get (.vv 5) (.il 2)) (.il 2)) (q 16 0)), (.pure 27 (.get (.get (.vv 5) (.il 2)) (.il 3)) (q 17 0))])) z z z) z z z) (m (.addr 0 0) (n (l (.int .i64 (.iv 0))) z z z) z z z)), [.code (C 3 [1, 1, 0, 1, 0, 0]), .inLoop (C 3 [1, 1, 0, 1, 0, 0]), .inBlock 0, .code (C 3 [1, 1, 1])], [], .run, false, none⟩, [], ⟨3, 18, 6, (l (.cells [(.int .u8 (.toI (.get (.vv 0) (.il 0)))), (.int .u8 (.toI (.get (.vv 0) (.il 1)))), (.int .u8 (.toI (.get (.vv 0) (.il 2)))), (.pure 5 (.get (.vv 0) (.il 3)) (q 7 0)), (.pure 5 (.get (.vv 0) (.il 4)) (q 8 0))]))⟩⟩
noncomputable def s2 : SMach := ⟨⟨3, 109, (n z (n z (l (.addr 3 0)) z (n z (l (.agg [(.pure 3 (.vv 11) (q 38 0)), (.pure 3 (.cut (.vv 3) (.il 0) (.min (.len (.vv 3)) (.il 10))) (q 39 0))])) z z)) (m (.pure 3 (.vv 3) (q 23 0)) (n (l (.agg [(.int .i64 (.toI (.get (.get (.vv 5) (.il 0)) (.il 0)))), (.pure 3 (.get (.get (.vv 5) (.il 0)) (.il 1)) (q 29 0)), (.pure 27 (.get (.get (.vv 5) (.il 0)) (.il 2)) (q 30 0)), (.pure 27 (.get (.get (.vv 5) (.il 0)) (.il 3)) (q 31 0)), (.int .i64 (.toI (.get (.get (.vv 5) (.il 1)) (.il 0)))), (.pure 3 (.get (.get (.vv 5) (.il 1)) (.il 1)) (q 32 0)), (.pure 27 (.get (.get (.vv 5) (.il 1)) (.il 2)) (q 33 0)), (.pure 27 (.get (.get (.vv 5) (.il 1)) (.il 3)) (q 34 0)), (.int .i64 (.toI (.get (.get (.vv 5) (.il 2)) (.il 0)))), (.pure 3 (.get (.get (.vv 5) (.il 2)) (.il 1)) (q 35 0)), (.pure 27 (.get (.get (.vv 5) (.il 2)) (.il 2)) (q 36 0)), (.pure 27 (.get (.get (.vv 5) (.il 2)) (.il 3)) (q 37 0))])) z z z) z z (n z (l (.int .i64 (.iv 0))) z z)) (m (.addr 0 0) (n (l (.int .i64 (.iv 2))) z z z) z z z)), [.code (C 3 [1, 1, 0, 1, 0, 0, 1, 1, 0, 0, 1, 1, 1, 0, 0]), .inLoop (C 3 [1, 1, 0, 1, 0, 0, 1, 1, 0, 0, 1, 1, 1, 0, 0]), .inBlock 2, .inBlock 1, .code (C 3 [1, 1, 0, 1, 0, 0, 1, 1, 1]), .inLoop (C 3 [1, 1, 0, 1, 0, 0]), .inBlock 0, .code (C 3 [1, 1, 1])], [], .run, false, none⟩, [], ⟨4, 40, 15, (m (.cells [(.int .u8 (.toI (.get (.vv 0) (.il 0)))), (.int .u8 (.toI (.get (.vv 0) (.il 1)))), (.int .u8 (.toI (.get (.vv 0) (.il 2)))), (.pure 5 (.get (.vv 0) (.il 3)) (q 24 0)), (.pure 5 (.get (.vv 0) (.il 4)) (q 25 0))]) z z (l (.cells [(.int .i64 (.iv 1)), (.pure 3 (.vv 12) (q 26 0)), (.pure 27 (.vv 13) (q 27 0)), (.pure 27 (.vv 14) (q 28 0))])) z)⟩⟩
theorem p1 : stretch K 26 [false] s0 s1 [] ⟨[(.il 0)], [], [(.vv 0), (.vv 1), (.vv 2), (.vv 3), (.vv 4), (.vv 5)], [(q 0 0), (q 1 0), (q 2 0), (q 3 0), (q 4 0), (q 5 0), (q 3 0), (q 0 3), (q 0 4), (q 5 1), (q 5 2), (q 5 3), (q 5 5), (q 5 6), (q 5 7), (q 5 9), (q 5 10), (q 5 11)]⟩ [(0, (some 0))] = some (s1, [.call 10 [], .ask (.not (.not (.toB (.vv 4)))), .call 11 [(.snoc (.snoc (.snoc (.snoc (.snoc .emp (.ofI (.toI (.get (.vv 0) (.il 0))))) (.ofI (.toI (.get (.vv 0) (.il 1))))) (.ofI (.toI (.get (.vv 0) (.il 2))))) (.get (.vv 0) (.il 3))) (.get (.vv 0) (.il 4))), (.snoc (.snoc (.snoc (.snoc .emp (.ofI (.toI (.get (.vv 1) (.il 0))))) (.ofI (.toI (.get (.vv 1) (.il 1))))) (.ofI (.toI (.get (.vv 1) (.il 2))))) (.ofI (.toI (.get (.vv 1) (.il 3))))), (.snoc (.snoc (.snoc (.snoc .emp (.ofI (.toI (.get (.vv 2) (.il 0))))) (.get (.vv 2) (.il 1))) (.get (.vv 2) (.il 2))) (.get (.vv 2) (.il 3)))]]) := by kernel_rfl
theorem p4 : stretch K 52 [true, true, false, true, false] s1 s2 [] ⟨[(.il 0), (.toI (.get (.get (.vv 5) (.il 0)) (.il 0))), (.il 0)], [], [(.vv 0), (.vv 1), (.vv 2), (.vv 3), (.vv 4), (.vv 5), (.vv 6), (.vv 7), (.vv 8), (.vv 9), (.vv 10), (.vv 10), (.get (.get (.vv 5) (.il 0)) (.il 1)), (.get (.get (.vv 5) (.il 0)) (.il 2)), (.get (.get (.vv 5) (.il 0)) (.il 3))], [(q 0 0), (q 1 0), (q 2 0), (q 3 0), (q 4 0), (q 5 0), (q 6 0), (q 7 0), (q 8 0), (q 9 0), (q 10 0), (q 11 0), (q 12 0), (q 13 0), (q 14 0), (q 15 0), (q 16 0), (q 17 0), (q 18 0), (q 19 0), (q 20 0), (q 21 0), (q 22 0), (q 6 0), (q 7 0), (q 8 0), (q 9 0), (q 10 0), (q 11 0), (q 9 0), (q 10 0), (q 11 0), (q 12 0), (q 13 0), (q 14 0), (q 15 0), (q 16 0), (q 17 0), (q 22 0), (.sub (q 6 0) (.il 0) (.min (.len (.vv 3)) (.il 10)) 1)]⟩ [(0, (some 0)), (3, (some 3))] = some (s2, [.ask (.lt (.iv 0) (.il 3)), .ask (.eq (.iv 0) (.il 0)), .call 12 [(.snoc (.snoc (.snoc (.snoc .emp (.ofI (.toI (.get (.get (.vv 5) (.il 0)) (.il 0))))) (.get (.get (.vv 5) (.il 0)) (.il 1))) (.get (.get (.vv 5) (.il 0)) (.il 2))) (.get (.get (.vv 5) (.il 0)) (.il 3)))], .call 13 [(.snoc (.snoc (.snoc (.snoc .emp (.ofI (.toI (.get (.get (.vv 5) (.il 0)) (.il 0))))) (.get (.get (.vv 5) (.il 0)) (.il 1))) (.get (.get (.vv 5) (.il 0)) (.il 2))) (.get (.get (.vv 5) (.il 0)) (.il 3)))], .ask (.not (.not (.beq (.eq (.toI (.vv 6)) (.il 0)) (.toB (.vv 7))))), .call 12 [(.snoc (.snoc (.snoc (.snoc .emp (.ofI (.toI (.get (.get (.vv 5) (.il 0)) (.il 0))))) (.get (.get (.vv 5) (.il 0)) (.il 1))) (.get (.get (.vv 5) (.il 0)) (.il 2))) (.get (.get (.vv 5) (.il 0)) (.il 3)))], .ask (.not (.eq (.toI (.vv 8)) (.il 0))), .call 12 [(.snoc (.snoc (.snoc (.snoc .emp (.ofI (.toI (.get (.get (.vv 5) (.il 0)) (.il 0))))) (.get (.get (.vv 5) (.il 0)) (.il 1))) (.get (.get (.vv 5) (.il 0)) (.il 2))) (.get (.get (.vv 5) (.il 0)) (.il 3)))], .ask (.not (.not (.eq (.toI (.vv 9)) (.il 170)))), .ask (.le (.il 0) (.min (.len (.vv 3)) (.il 10))), .ask (.le (.min (.len (.vv 3)) (.il 10)) (.len (.vv 3))), .call 14 [(.snoc (.snoc (.snoc (.snoc (.snoc .emp (.ofI (.toI (.get (.vv 0) (.il 0))))) (.ofI (.toI (.get (.vv 0) (.il 1))))) (.ofI (.toI (.get (.vv 0) (.il 2))))) (.get (.vv 0) (.il 3))) (.get (.vv 0) (.il 4)))], .ask (.le (.il 0) (.min (.len (.vv 3)) (.il 10))), .ask (.le (.min (.len (.vv 3)) (.il 10)) (.len (.vv 3)))]) := by kernel_rfl
theorem p5 : stretch K 52 [true, true, false, false] s1 s2 [] ⟨[(.il 0), (.toI (.get (.get (.vv 5) (.il 0)) (.il 0))), (.il 0)], [], [(.vv 0), (.vv 1), (.vv 2), (.vv 3), (.vv 4), (.vv 5), (.vv 6), (.vv 7), (.vv 8), (.vv 9), (.vv 10), (.vv 9), (.get (.get (.vv 5) (.il 0)) (.il 1)), (.get (.get (.vv 5) (.il 0)) (.il 2)), (.get (.get (.vv 5) (.il 0)) (.il 3))], [(q 0 0), (q 1 0), (q 2 0), (q 3 0), (q 4 0), (q 5 0), (q 6 0), (q 7 0), (q 8 0), (q 9 0), (q 10 0), (q 11 0), (q 12 0), (q 13 0), (q 14 0), (q 15 0), (q 16 0), (q 17 0), (q 18 0), (q 19 0), (q 20 0), (q 21 0), (q 22 0), (q 6 0), (q 7 0), (q 8 0), (q 9 0), (q 10 0), (q 11 0), (q 9 0), (q 10 0), (q 11 0), (q 12 0), (q 13 0), (q 14 0), (q 15 0), (q 16 0), (q 17 0), (q 21 0), (.sub (q 6 0) (.il 0) (.min (.len (.vv 3)) (.il 10)) 1)]⟩ [(0, (some 0)), (3, (some 3))] = some (s2, [.ask (.lt (.iv 0) (.il 3)), .ask (.eq (.iv 0) (.il 0)), .call 12 [(.snoc (.snoc (.snoc (.snoc .emp (.ofI (.toI (.get (.get (.vv 5) (.il 0)) (.il 0))))) (.get (.get (.vv 5) (.il 0)) (.il 1))) (.get (.get (.vv 5) (.il 0)) (.il 2))) (.get (.get (.vv 5) (.il 0)) (.il 3)))], .call 13 [(.snoc (.snoc (.snoc (.snoc .emp (.ofI (.toI (.get (.get (.vv 5) (.il 0)) (.il 0))))) (.get (.get (.vv 5) (.il 0)) (.il 1))) (.get (.get (.vv 5) (.il 0)) (.il 2))) (.get (.get (.vv 5) (.il 0)) (.il 3)))], .ask (.not (.not (.beq (.eq (.toI (.vv 6)) (.il 0)) (.toB (.vv 7))))), .call 12 [(.snoc (.snoc (.snoc (.snoc .emp (.ofI (.toI (.get (.get (.vv 5) (.il 0)) (.il 0))))) (.get (.get (.vv 5) (.il 0)) (.il 1))) (.get (.get (.vv 5) (.il 0)) (.il 2))) (.get (.get (.vv 5) (.il 0)) (.il 3)))], .ask (.not (.not (.eq (.toI (.vv 8)) (.il 0)))), .ask (.le (.il 0) (.min (.len (.vv 3)) (.il 10))), .ask (.le (.min (.len (.vv 3)) (.il 10)) (.len (.vv 3))), .call 14 [(.snoc (.snoc (.snoc (.snoc (.snoc .emp (.ofI (.toI (.get (.vv 0) (.il 0))))) (.ofI (.toI (.get (.vv 0) (.il 1))))) (.ofI (.toI (.get (.vv 0) (.il 2))))) (.get (.vv 0) (.il 3))) (.get (.vv 0) (.il 4)))], .ask (.le (.il 0) (.min (.len (.vv 3)) (.il 10))), .ask (.le (.min (.len (.vv 3)) (.il 10)) (.len (.vv 3)))]) := by kernel_rfl
theorem p8 : stretch K 52 [true, false, true, false, true, false] s1 s2 [] ⟨[(.il 0), (.toI (.get (.get (.vv 5) (.il 1)) (.il 0))), (.il 1)], [], [(.vv 0), (.vv 1), (.vv 2), (.vv 3), (.vv 4), (.vv 5), (.vv 6), (.vv 7), (.vv 8), (.vv 9), (.vv 10), (.vv 10), (.get (.get (.vv 5) (.il 1)) (.il 1)), (.get (.get (.vv 5) (.il 1)) (.il 2)), (.get (.get (.vv 5) (.il 1)) (.il 3))], [(q 0 0), (q 1 0), (q 2 0), (q 3 0), (q 4 0), (q 5 0), (q 6 0), (q 7 0), (q 8 0), (q 9 0), (q 10 0), (q 11 0), (q 12 0), (q 13 0), (q 14 0), (q 15 0), (q 16 0), (q 17 0), (q 18 0), (q 19 0), (q 20 0), (q 21 0), (q 22 0), (q 6 0), (q 7 0), (q 8 0), (q 12 0), (q 13 0), (q 14 0), (q 9 0), (q 10 0), (q 11 0), (q 12 0), (q 13 0), (q 14 0), (q 15 0), (q 16 0), (q 17 0), (q 22 0), (.sub (q 6 0) (.il 0) (.min (.len (.vv 3)) (.il 10)) 1)]⟩ [(0, (some 0)), (3, (some 3))] = some (s2, [.ask (.lt (.iv 0) (.il 3)), .ask (.not (.eq (.iv 0) (.il 0))), .ask (.eq (.iv 0) (.il 1)), .call 12 [(.snoc (.snoc (.snoc (.snoc .emp (.ofI (.toI (.get (.get (.vv 5) (.il 1)) (.il 0))))) (.get (.get (.vv 5) (.il 1)) (.il 1))) (.get (.get (.vv 5) (.il 1)) (.il 2))) (.get (.get (.vv 5) (.il 1)) (.il 3)))], .call 13 [(.snoc (.snoc (.snoc (.snoc .emp (.ofI (.toI (.get (.get (.vv 5) (.il 1)) (.il 0))))) (.get (.get (.vv 5) (.il 1)) (.il 1))) (.get (.get (.vv 5) (.il 1)) (.il 2))) (.get (.get (.vv 5) (.il 1)) (.il 3)))], .ask (.not (.not (.beq (.eq (.toI (.vv 6)) (.il 0)) (.toB (.vv 7))))), .call 12 [(.snoc (.snoc (.snoc (.snoc .emp (.ofI (.toI (.get (.get (.vv 5) (.il 1)) (.il 0))))) (.get (.get (.vv 5) (.il 1)) (.il 1))) (.get (.get (.vv 5) (.il 1)) (.il 2))) (.get (.get (.vv 5) (.il 1)) (.il 3)))], .ask (.not (.eq (.toI (.vv 8)) (.il 0))), .call 12 [(.snoc (.snoc (.snoc (.snoc .emp (.ofI (.toI (.get (.get (.vv 5) (.il 1)) (.il 0))))) (.get (.get (.vv 5) (.il 1)) (.il 1))) (.get (.get (.vv 5) (.il 1)) (.il 2))) (.get (.get (.vv 5) (.il 1)) (.il 3)))], .ask (.not (.not (.eq (.toI (.vv 9)) (.il 170)))), .ask (.le (.il 0) (.min (.len (.vv 3)) (.il 10))), .ask (.le (.min (.len (.vv 3)) (.il 10)) (.len (.vv 3))), .call 14 [(.snoc (.snoc (.snoc (.snoc (.snoc .emp (.ofI (.toI (.get (.vv 0) (.il 0))))) (.ofI (.toI (.get (.vv 0) (.il 1))))) (.ofI (.toI (.get (.vv 0) (.il 2))))) (.get (.vv 0) (.il 3))) (.get (.vv 0) (.il 4)))], .ask (.le (.il 0) (.min (.len (.vv 3)) (.il 10))), .ask (.le (.min (.len (.vv 3)) (.il 10)) (.len (.vv 3)))]) := by kernel_rfl
theorem p9 : stretch K 52 [true, false, true, false, false] s1 s2 [] ⟨[(.il 0), (.toI (.get (.get (.vv 5) (.il 1)) (.il 0))), (.il 1)], [], [(.vv 0), (.vv 1), (.vv 2), (.vv 3), (.vv 4), (.vv 5), (.vv 6), (.vv 7), (.vv 8), (.vv 9), (.vv 10), (.vv 9), (.get (.get (.vv 5) (.il 1)) (.il 1)), (.get (.get (.vv 5) (.il 1)) (.il 2)), (.get (.get (.vv 5) (.il 1)) (.il 3))], [(q 0 0), (q 1 0), (q 2 0), (q 3 0), (q 4 0), (q 5 0), (q 6 0), (q 7 0), (q 8 0), (q 9 0), (q 10 0), (q 11 0), (q 12 0), (q 13 0), (q 14 0), (q 15 0), (q 16 0), (q 17 0), (q 18 0), (q 19 0), (q 20 0), (q 21 0), (q 22 0), (q 6 0), (q 7 0), (q 8 0), (q 12 0), (q 13 0), (q 14 0), (q 9 0), (q 10 0), (q 11 0), (q 12 0), (q 13 0), (q 14 0), (q 15 0), (q 16 0), (q 17 0), (q 21 0), (.sub (q 6 0) (.il 0) (.min (.len (.vv 3)) (.il 10)) 1)]⟩ [(0, (some 0)), (3, (some 3))] = some (s2, [.ask (.lt (.iv 0) (.il 3)), .ask (.not (.eq (.iv 0) (.il 0))), .ask (.eq (.iv 0) (.il 1)), .call 12 [(.snoc (.snoc (.snoc (.snoc .emp (.ofI (.toI (.get (.get (.vv 5) (.il 1)) (.il 0))))) (.get (.get (.vv 5) (.il 1)) (.il 1))) (.get (.get (.vv 5) (.il 1)) (.il 2))) (.get (.get (.vv 5) (.il 1)) (.il 3)))], .call 13 [(.snoc (.snoc (.snoc (.snoc .emp (.ofI (.toI (.get (.get (.vv 5) (.il 1)) (.il 0))))) (.get (.get (.vv 5) (.il 1)) (.il 1))) (.get (.get (.vv 5) (.il 1)) (.il 2))) (.get (.get (.vv 5) (.il 1)) (.il 3)))], .ask (.not (.not (.beq (.eq (.toI (.vv 6)) (.il 0)) (.toB (.vv 7))))), .call 12 [(.snoc (.snoc (.snoc (.snoc .emp (.ofI (.toI (.get (.get (.vv 5) (.il 1)) (.il 0))))) (.get (.get (.vv 5) (.il 1)) (.il 1))) (.get (.get (.vv 5) (.il 1)) (.il 2))) (.get (.get (.vv 5) (.il 1)) (.il 3)))], .ask (.not (.not (.eq (.toI (.vv 8)) (.il 0)))), .ask (.le (.il 0) (.min (.len (.vv 3)) (.il 10))), .ask (.le (.min (.len (.vv 3)) (.il 10)) (.len (.vv 3))), .call 14 [(.snoc (.snoc (.snoc (.snoc (.snoc .emp (.ofI (.toI (.get (.vv 0) (.il 0))))) (.ofI (.toI (.get (.vv 0) (.il 1))))) (.ofI (.toI (.get (.vv 0) (.il 2))))) (.get (.vv 0) (.il 3))) (.get (.vv 0) (.il 4)))], .ask (.le (.il 0) (.min (.len (.vv 3)) (.il 10))), .ask (.le (.min (.len (.vv 3)) (.il 10)) (.len (.vv 3)))]) := by kernel_rfl
theorem p12 : stretch K 52 [true, false, false, true, false, true, false] s1 s2 [] ⟨[(.il 0), (.toI (.get (.get (.vv 5) (.il 2)) (.il 0))), (.il 2)], [], [(.vv 0), (.vv 1), (.vv 2), (.vv 3), (.vv 4), (.vv 5), (.vv 6), (.vv 7), (.vv 8), (.vv 9), (.vv 10), (.vv 10), (.get (.get (.vv 5) (.il 2)) (.il 1)), (.get (.get (.vv 5) (.il 2)) (.il 2)), (.get (.get (.vv 5) (.il 2)) (.il 3))], [(q 0 0), (q 1 0), (q 2 0), (q 3 0), (q 4 0), (q 5 0), (q 6 0), (q 7 0), (q 8 0), (q 9 0), (q 10 0), (q 11 0), (q 12 0), (q 13 0), (q 14 0), (q 15 0), (q 16 0), (q 17 0), (q 18 0), (q 19 0), (q 20 0), (q 21 0), (q 22 0), (q 6 0), (q 7 0), (q 8 0), (q 15 0), (q 16 0), (q 17 0), (q 9 0), (q 10 0), (q 11 0), (q 12 0), (q 13 0), (q 14 0), (q 15 0), (q 16 0), (q 17 0), (q 22 0), (.sub (q 6 0) (.il 0) (.min (.len (.vv 3)) (.il 10)) 1)]⟩ [(0, (some 0)), (3, (some 3))] = some (s2, [.ask (.lt (.iv 0) (.il 3)), .ask (.not (.eq (.iv 0) (.il 0))), .ask (.not (.eq (.iv 0) (.il 1))), .ask (.eq (.iv 0) (.il 2)), .call 12 [(.snoc (.snoc (.snoc (.snoc .emp (.ofI (.toI (.get (.get (.vv 5) (.il 2)) (.il 0))))) (.get (.get (.vv 5) (.il 2)) (.il 1))) (.get (.get (.vv 5) (.il 2)) (.il 2))) (.get (.get (.vv 5) (.il 2)) (.il 3)))], .call 13 [(.snoc (.snoc (.snoc (.snoc .emp (.ofI (.toI (.get (.get (.vv 5) (.il 2)) (.il 0))))) (.get (.get (.vv 5) (.il 2)) (.il 1))) (.get (.get (.vv 5) (.il 2)) (.il 2))) (.get (.get (.vv 5) (.il 2)) (.il 3)))], .ask (.not (.not (.beq (.eq (.toI (.vv 6)) (.il 0)) (.toB (.vv 7))))), .call 12 [(.snoc (.snoc (.snoc (.snoc .emp (.ofI (.toI (.get (.get (.vv 5) (.il 2)) (.il 0))))) (.get (.get (.vv 5) (.il 2)) (.il 1))) (.get (.get (.vv 5) (.il 2)) (.il 2))) (.get (.get (.vv 5) (.il 2)) (.il 3)))], .ask (.not (.eq (.toI (.vv 8)) (.il 0))), .call 12 [(.snoc (.snoc (.snoc (.snoc .emp (.ofI (.toI (.get (.get (.vv 5) (.il 2)) (.il 0))))) (.get (.get (.vv 5) (.il 2)) (.il 1))) (.get (.get (.vv 5) (.il 2)) (.il 2))) (.get (.get (.vv 5) (.il 2)) (.il 3)))], .ask (.not (.not (.eq (.toI (.vv 9)) (.il 170)))), .ask (.le (.il 0) (.min (.len (.vv 3)) (.il 10))), .ask (.le (.min (.len (.vv 3)) (.il 10)) (.len (.vv 3))), .call 14 [(.snoc (.snoc (.snoc (.snoc (.snoc .emp (.ofI (.toI (.get (.vv 0) (.il 0))))) (.ofI (.toI (.get (.vv 0) (.il 1))))) (.ofI (.toI (.get (.vv 0) (.il 2))))) (.get (.vv 0) (.il 3))) (.get (.vv 0) (.il 4)))], .ask (.le (.il 0) (.min (.len (.vv 3)) (.il 10))), .ask (.le (.min (.len (.vv 3)) (.il 10)) (.len (.vv 3)))]) := by kernel_rfl
theorem p13 : stretch K 52 [true, false, false, true, false, false] s1 s2 [] ⟨[(.il 0), (.toI (.get (.get (.vv 5) (.il 2)) (.il 0))), (.il 2)], [], [(.vv 0), (.vv 1), (.vv 2), (.vv 3), (.vv 4), (.vv 5), (.vv 6), (.vv 7), (.vv 8), (.vv 9), (.vv 10), (.vv 9), (.get (.get (.vv 5) (.il 2)) (.il 1)), (.get (.get (.vv 5) (.il 2)) (.il 2)), (.get (.get (.vv 5) (.il 2)) (.il 3))], [(q 0 0), (q 1 0), (q 2 0), (q 3 0), (q 4 0), (q 5 0), (q 6 0), (q 7 0), (q 8 0), (q 9 0), (q 10 0), (q 11 0), (q 12 0), (q 13 0), (q 14 0), (q 15 0), (q 16 0), (q 17 0), (q 18 0), (q 19 0), (q 20 0), (q 21 0), (q 22 0), (q 6 0), (q 7 0), (q 8 0), (q 15 0), (q 16 0), (q 17 0), (q 9 0), (q 10 0), (q 11 0), (q 12 0), (q 13 0), (q 14 0), (q 15 0), (q 16 0), (q 17 0), (q 21 0), (.sub (q 6 0) (.il 0) (.min (.len (.vv 3)) (.il 10)) 1)]⟩ [(0, (some 0)), (3, (some 3))] = some (s2, [.ask (.lt (.iv 0) (.il 3)), .ask (.not (.eq (.iv 0) (.il 0))), .ask (.not (.eq (.iv 0) (.il 1))), .ask (.eq (.iv 0) (.il 2)), .call 12 [(.snoc (.snoc (.snoc (.snoc .emp (.ofI (.toI (.get (.get (.vv 5) (.il 2)) (.il 0))))) (.get (.get (.vv 5) (.il 2)) (.il 1))) (.get (.get (.vv 5) (.il 2)) (.il 2))) (.get (.get (.vv 5) (.il 2)) (.il 3)))], .call 13 [(.snoc (.snoc (.snoc (.snoc .emp (.ofI (.toI (.get (.get (.vv 5) (.il 2)) (.il 0))))) (.get (.get (.vv 5) (.il 2)) (.il 1))) (.get (.get (.vv 5) (.il 2)) (.il 2))) (.get (.get (.vv 5) (.il 2)) (.il 3)))], .ask (.not (.not (.beq (.eq (.toI (.vv 6)) (.il 0)) (.toB (.vv 7))))), .call 12 [(.snoc (.snoc (.snoc (.snoc .emp (.ofI (.toI (.get (.get (.vv 5) (.il 2)) (.il 0))))) (.get (.get (.vv 5) (.il 2)) (.il 1))) (.get (.get (.vv 5) (.il 2)) (.il 2))) (.get (.get (.vv 5) (.il 2)) (.il 3)))], .ask (.not (.not (.eq (.toI (.vv 8)) (.il 0)))), .ask (.le (.il 0) (.min (.len (.vv 3)) (.il 10))), .ask (.le (.min (.len (.vv 3)) (.il 10)) (.len (.vv 3))), .call 14 [(.snoc (.snoc (.snoc (.snoc (.snoc .emp (.ofI (.toI (.get (.vv 0) (.il 0))))) (.ofI (.toI (.get (.vv 0) (.il 1))))) (.ofI (.toI (.get (.vv 0) (.il 2))))) (.get (.vv 0) (.il 3))) (.get (.vv 0) (.il 4)))], .ask (.le (.il 0) (.min (.len (.vv 3)) (.il 10))), .ask (.le (.min (.len (.vv 3)) (.il 10)) (.len (.vv 3)))]) := by kernel_rfl
theorem p14 : last K 3 12 [false] s1 = some ((.ofB (.bl true)), [.ask (.not (.lt (.iv 0) (.il 3)))]) := by kernel_rfl
theorem p21 : stretch K 99 [true, true, false, false, true, false, false] s2 s2 [] ⟨[(.il 1), (.iv 1), (.iv 2)], [], [(.vv 0), (.vv 1), (.vv 2), (.vv 3), (.vv 4), (.vv 5), (.vv 6), (.vv 7), (.vv 8), (.vv 9), (.vv 10), (.vv 11), (.vv 12), (.vv 13), (.vv 14)], [(q 0 0), (q 1 0), (q 2 0), (q 3 0), (q 4 0), (q 5 0), (q 6 0), (q 7 0), (q 8 0), (q 9 0), (q 10 0), (q 11 0), (q 12 0), (q 13 0), (q 14 0), (q 15 0), (q 16 0), (q 17 0), (q 18 0), (q 19 0), (q 20 0), (q 21 0), (q 22 0), (q 23 0), (q 24 0), (q 25 0), (q 26 0), (q 27 0), (q 28 0), (q 29 0), (q 30 0), (q 31 0), (q 32 0), (q 33 0), (q 34 0), (q 35 0), (q 36 0), (q 37 0), (q 38 0), (q 39 0)]⟩ [(0, (some 0)), (3, (some 3))] = some (s2, [.ask (.lt (.iv 0) (.il 2)), .ask (.eq (.iv 0) (.il 0)), .call 15 [(.snoc (.snoc (.snoc (.snoc .emp (.ofI (.iv 1))) (.vv 12)) (.vv 13)) (.vv 14)), (.vv 11)], .call 16 [(.snoc (.snoc (.snoc (.snoc .emp (.ofI (.iv 1))) (.vv 12)) (.vv 13)) (.vv 14)), (.vv 11)], .call 17 [(.snoc (.snoc (.snoc (.snoc .emp (.ofI (.iv 1))) (.vv 12)) (.vv 13)) (.vv 14)), (.vv 11)], .ask (.not (.not (.eq (.toI (.get (.vv 15) (.il 1))) (.toI (.vv 17))))), .ask (.not (.not (.eq (.toI (.get (.vv 16) (.il 1))) (.toI (.vv 17))))), .ask (.not (.eq (.toI (.vv 17)) (.il 0))), .ask (FT (.add (.len (.get (.vv 15) (.il 0))) (.len (.get (.vv 16) (.il 0))))), .ask (.not (.lt (.il 0) (.add (.len (.get (.vv 15) (.il 0))) (.len (.get (.vv 16) (.il 0)))))), .ask (.not (.eq (.toI (.vv 17)) (.il 0)))]) := by kernel_rfl
theorem p24 : stretch K 99 [true, true, false, false, false, true, false, false] s2 s2 [] ⟨[(.il 1), (.iv 1), (.iv 2)], [], [(.vv 0), (.vv 1), (.vv 2), (.vv 3), (.vv 4), (.vv 5), (.vv 6), (.vv 7), (.vv 8), (.vv 9), (.vv 10), (.vv 11), (.vv 12), (.vv 13), (.vv 14)], [(q 0 0), (q 1 0), (q 2 0), (q 3 0), (q 4 0), (q 5 0), (q 6 0), (q 7 0), (q 8 0), (q 9 0), (q 10 0), (q 11 0), (q 12 0), (q 13 0), (q 14 0), (q 15 0), (q 16 0), (q 17 0), (q 18 0), (q 19 0), (q 20 0), (q 21 0), (q 22 0), (q 23 0), (q 24 0), (q 25 0), (q 26 0), (q 27 0), (q 28 0), (q 29 0), (q 30 0), (q 31 0), (q 32 0), (q 33 0), (q 34 0), (q 35 0), (q 36 0), (q 37 0), (q 38 0), (q 39 0)]⟩ [(0, (some 0)), (3, (some 3))] = some (s2, [.ask (.lt (.iv 0) (.il 2)), .ask (.eq (.iv 0) (.il 0)), .call 15 [(.snoc (.snoc (.snoc (.snoc .emp (.ofI (.iv 1))) (.vv 12)) (.vv 13)) (.vv 14)), (.vv 11)], .call 16 [(.snoc (.snoc (.snoc (.snoc .emp (.ofI (.iv 1))) (.vv 12)) (.vv 13)) (.vv 14)), (.vv 11)], .call 17 [(.snoc (.snoc (.snoc (.snoc .emp (.ofI (.iv 1))) (.vv 12)) (.vv 13)) (.vv 14)), (.vv 11)], .ask (.not (.not (.eq (.toI (.get (.vv 15) (.il 1))) (.toI (.vv 17))))), .ask (.not (.not (.eq (.toI (.get (.vv 16) (.il 1))) (.toI (.vv 17))))), .ask (.not (.not (.eq (.toI (.vv 17)) (.il 0)))), .ask (.eq (.toI (.vv 17)) (.il 0)), .call 19 [(.snoc (.snoc (.snoc (.snoc .emp (.ofI (.iv 1))) (.vv 12)) (.vv 13)) (.vv 14)), (.vv 11)], .call 18 [(.get (.vv 15) (.il 0)), (.vv 18)], .ask (.not (.not (.toB (.vv 19)))), .call 20 [(.snoc (.snoc (.snoc (.snoc .emp (.ofI (.iv 1))) (.vv 12)) (.vv 13)) (.vv 14)), (.vv 11)], .call 18 [(.get (.vv 16) (.il 0)), (.vv 20)], .ask (.not (.not (.toB (.vv 21))))]) := by kernel_rfl
theorem p32 : stretch K 99 [true, false, true, false, false, true, false, false] s2 s2 [] ⟨[(.il 2), (.iv 1), (.iv 2)], [], [(.vv 0), (.vv 1), (.vv 2), (.vv 3), (.vv 4), (.vv 5), (.vv 6), (.vv 7), (.vv 8), (.vv 9), (.vv 10), (.vv 11), (.vv 12), (.vv 13), (.vv 14)], [(q 0 0), (q 1 0), (q 2 0), (q 3 0), (q 4 0), (q 5 0), (q 6 0), (q 7 0), (q 8 0), (q 9 0), (q 10 0), (q 11 0), (q 12 0), (q 13 0), (q 14 0), (q 15 0), (q 16 0), (q 17 0), (q 18 0), (q 19 0), (q 20 0), (q 21 0), (q 22 0), (q 23 0), (q 24 0), (q 25 0), (q 26 0), (q 27 0), (q 28 0), (q 29 0), (q 30 0), (q 31 0), (q 32 0), (q 33 0), (q 34 0), (q 35 0), (q 36 0), (q 37 0), (q 38 0), (q 39 0)]⟩ [(0, (some 0)), (3, (some 3))] = some (s2, [.ask (.lt (.iv 0) (.il 2)), .ask (.not (.eq (.iv 0) (.il 0))), .ask (.eq (.iv 0) (.il 1)), .call 15 [(.snoc (.snoc (.snoc (.snoc .emp (.ofI (.iv 1))) (.vv 12)) (.vv 13)) (.vv 14)), (.cut (.vv 3) (.il 0) (.min (.len (.vv 3)) (.il 10)))], .call 16 [(.snoc (.snoc (.snoc (.snoc .emp (.ofI (.iv 1))) (.vv 12)) (.vv 13)) (.vv 14)), (.cut (.vv 3) (.il 0) (.min (.len (.vv 3)) (.il 10)))], .call 17 [(.snoc (.snoc (.snoc (.snoc .emp (.ofI (.iv 1))) (.vv 12)) (.vv 13)) (.vv 14)), (.cut (.vv 3) (.il 0) (.min (.len (.vv 3)) (.il 10)))], .ask (.not (.not (.eq (.toI (.get (.vv 15) (.il 1))) (.toI (.vv 17))))), .ask (.not (.not (.eq (.toI (.get (.vv 16) (.il 1))) (.toI (.vv 17))))), .ask (.not (.eq (.toI (.vv 17)) (.il 0))), .ask (FT (.add (.len (.get (.vv 15) (.il 0))) (.len (.get (.vv 16) (.il 0))))), .ask (.not (.lt (.il 0) (.add (.len (.get (.vv 15) (.il 0))) (.len (.get (.vv 16) (.il 0)))))), .ask (.not (.eq (.toI (.vv 17)) (.il 0)))]) := by kernel_rfl
theorem p35 : stretch K 99 [true, false, true, false, false, false, true, false, false] s2 s2 [] ⟨[(.il 2), (.iv 1), (.iv 2)], [], [(.vv 0), (.vv 1), (.vv 2), (.vv 3), (.vv 4), (.vv 5), (.vv 6), (.vv 7), (.vv 8), (.vv 9), (.vv 10), (.vv 11), (.vv 12), (.vv 13), (.vv 14)], [(q 0 0), (q 1 0), (q 2 0), (q 3 0), (q 4 0), (q 5 0), (q 6 0), (q 7 0), (q 8 0), (q 9 0), (q 10 0), (q 11 0), (q 12 0), (q 13 0), (q 14 0), (q 15 0), (q 16 0), (q 17 0), (q 18 0), (q 19 0), (q 20 0), (q 21 0), (q 22 0), (q 23 0), (q 24 0), (q 25 0), (q 26 0), (q 27 0), (q 28 0), (q 29 0), (q 30 0), (q 31 0), (q 32 0), (q 33 0), (q 34 0), (q 35 0), (q 36 0), (q 37 0), (q 38 0), (q 39 0)]⟩ [(0, (some 0)), (3, (some 3))] = some (s2, [.ask (.lt (.iv 0) (.il 2)), .ask (.not (.eq (.iv 0) (.il 0))), .ask (.eq (.iv 0) (.il 1)), .call 15 [(.snoc (.snoc (.snoc (.snoc .emp (.ofI (.iv 1))) (.vv 12)) (.vv 13)) (.vv 14)), (.cut (.vv 3) (.il 0) (.min (.len (.vv 3)) (.il 10)))], .call 16 [(.snoc (.snoc (.snoc (.snoc .emp (.ofI (.iv 1))) (.vv 12)) (.vv 13)) (.vv 14)), (.cut (.vv 3) (.il 0) (.min (.len (.vv 3)) (.il 10)))], .call 17 [(.snoc (.snoc (.snoc (.snoc .emp (.ofI (.iv 1))) (.vv 12)) (.vv 13)) (.vv 14)), (.cut (.vv 3) (.il 0) (.min (.len (.vv 3)) (.il 10)))], .ask (.not (.not (.eq (.toI (.get (.vv 15) (.il 1))) (.toI (.vv 17))))), .ask (.not (.not (.eq (.toI (.get (.vv 16) (.il 1))) (.toI (.vv 17))))), .ask (.not (.not (.eq (.toI (.vv 17)) (.il 0)))), .ask (.eq (.toI (.vv 17)) (.il 0)), .call 19 [(.snoc (.snoc (.snoc (.snoc .emp (.ofI (.iv 1))) (.vv 12)) (.vv 13)) (.vv 14)), (.cut (.vv 3) (.il 0) (.min (.len (.vv 3)) (.il 10)))], .call 18 [(.get (.vv 15) (.il 0)), (.vv 18)], .ask (.not (.not (.toB (.vv 19)))), .call 20 [(.snoc (.snoc (.snoc (.snoc .emp (.ofI (.iv 1))) (.vv 12)) (.vv 13)) (.vv 14)), (.cut (.vv 3) (.il 0) (.min (.len (.vv 3)) (.il 10)))], .call 18 [(.get (.vv 16) (.il 0)), (.vv 20)], .ask (.not (.not (.toB (.vv 21))))]) := by kernel_rfl
theorem p37 : stretch K 13 [false] s2 s1 [] ⟨[(.add (.iv 2) (.il 1))], [], [(.vv 0), (.vv 1), (.vv 2), (.vv 3), (.vv 4), (.vv 5)], [(q 0 0), (q 1 0), (q 2 0), (q 3 0), (q 4 0), (q 5 0), (q 23 0), (q 24 0), (q 25 0), (q 29 0), (q 30 0), (q 31 0), (q 32 0), (q 33 0), (q 34 0), (q 35 0), (q 36 0), (q 37 0)]⟩ [(0, (some 0))] = some (s1, [.ask (.not (.lt (.iv 0) (.il 2))), .ask (FT (.add (.iv 2) (.il 1)))]) := by kernel_rfl
theorem b : sbegin prog 3 = some s0 := by kernel_rfl
end HiddenTables
end X
namespace X
end X
namespace Go.Sym
open Go Go.Abs
open Go.RowKit (Below)
theorem WRel.grow {μ : Mu} {I : Imm} {w0 w w' : World} {h : Heap} (W : WRel μ I w0 h w) (b : Below w.heap.size w w') : WRel μ I w0 h w' := by
 refine ⟨W.below.trans (b.mono W.below.size), W.live, fun c B o N e => ?_, fun c ob B o N e m => ?_, W.inj, fun B o v e => ?_⟩
 ·obtain ⟨h1, h2, h3⟩ := W.mapped c B o N e
  exact ⟨h1, Nat.lt_of_lt_of_le h2 b.size, h3⟩
 ·obtain ⟨obj, h1, h2⟩ := W.objs c ob B o N e m
  exact ⟨obj, by rw [b.block _ (W.mapped c B o N m).2.1]; exact h1, h2⟩
 ·obtain ⟨h1, _, h3⟩ := W.imm B o v e
  refine ⟨?_, rfl, h3⟩
  have hlt : B < w.heap.size := by
   apply Decidable.byContradiction
   intro hq
   have hno : w.heap[B]? = none := Array.getElem?_eq_none (by omega)
   simp [World.cell?, hno] at h1
  have := b.cell (p := ⟨B, o, none⟩) hlt
  rw [this]; exact h1
noncomputable def doneT (P : Program) (f : FuncId) (t : Tmp) (b : Bool) (m : AMach) : Bool :=
 match m.callers, m.fr.mode, m.fr.defers, m.fr.roundOf with
 | [], .returning, [], none => Nat.beq m.fr.fn f && !m.fr.deferred && (match m.fr.tm.get t with | some (.bool c) => c == b | _ => false)
 | _, _, _, _ => false
noncomputable def endF (f nt t : Nat) (b : Bool) : AFrame := { fn := f, nt, tm := Tr.nil.set t (.bool b), todo := [], defers := [], mode := .returning, deferred := false, roundOf := none }
theorem leads_closed {P : Program} {f : FuncId} {g : AFrame} {m : AMach} {t : Tmp} {b : Bool} (hg : enter P f [] false = some g) (h1 : Leads P ⟨g, [], ⟨0, .nil⟩⟩ m) (h2 : doneT P f t b m = true) (h : Heap) (callers : List AFrame) :
  Leads P ⟨g, callers, h⟩ ⟨endF f m.fr.nt t b, callers, h⟩ := by
 intro I _ w0 μ c cs tl w r
 obtain ⟨⟨lo, hlo, hF, hS⟩, hW⟩ := r
 simp only at hlo hF hS hW
 unfold enter at hg
 split at hg
 case h_2 => cases hg
 rename_i fn hfn
 split at hg
 case h_2 => cases hg
 rename_i body hb
 obtain ⟨_, hg⟩ := cond_ok hg
 cases hg
 -- the frame, alone
 have hcm : c.mode = .run ∧ TodoRel P μ I h true lo h.next [.code body] (enter.setAll .nil 0 []) c.todo c.tmps := by
  have := hF.st
  cases this with | run a b => exact ⟨a, b⟩
 have htd : c.todo = [.code body] := by
  have h := hcm.2
  generalize c.todo = ct at h
  generalize c.tmps = cm at h
  cases h with
  | plain a b =>
   cases a with
   | cons x y =>
    cases y
    cases x
    rfl
 have hround : c.roundOf = none := by
  have h := hF.round
  generalize c.roundOf = cr at h
  simp only at h
  cases h; rfl
 have hdef : c.defers = [] := by
  have h := hF.defers
  generalize c.defers = cd at h
  simp only at h
  cases h; rfl
 have r0 : MRel P (fun _ => none) I w ⟨{ fn := f, nt := fn.ntmps, tm := enter.setAll .nil 0 [], todo := [.code body], defers := [], mode := .run, deferred := false, roundOf := none }, [], ⟨0, .nil⟩⟩ c [] w := by
  refine ⟨⟨0, Nat.le_refl _, ⟨hF.fn, hF.has, hF.kind, ?_, ?_, hF.size, ?_⟩, .nil⟩, start_rel w fun B o v e => (hW.imm B o v e).1⟩
  ·rw [hround]; exact .none
  ·rw [hdef]; exact .nil
  ·refine .run hcm.1 ?_
   rw [htd]
   exact .plain (.cons (.code _) .nil) (fun t v e => by rw [enter.setAll, Tr.get_nil] at e; cases e)
 obtain ⟨μ', c', cs', w', s, ⟨⟨lo', hlo', hF', hS'⟩, hW'⟩⟩ := h1 I w _ c [] (cs ++ tl) w r0
 unfold doneT at h2
 split at h2
 case h_2 => cases h2
 rename_i hc hm hd hro
 simp only [Bool.and_eq_true, Bool.not_eq_true'] at h2
 obtain ⟨⟨k1, k2⟩, k3⟩ := h2
 have k1 := beq_tt k1
 rw [hc] at hS'
 cases hS'
 refine ⟨μ, c', cs, w', by simpa using s, ⟨⟨lo, hlo, ⟨?_, ⟨fn, hfn⟩, ?_, ?_, ?_, hF'.size, ?_⟩, hS⟩, WRel.grow hW hW'.below⟩⟩
 ·rw [hF'.fn, k1]; rfl
 ·rw [hF'.kind, k2]; rfl
 ·have h := hF'.round
  rw [hro] at h
  generalize c'.roundOf = cr at h
  cases h
  exact .none
 ·have h := hF'.defers
  rw [hd] at h
  generalize c'.defers = cd at h
  cases h; exact .nil
 ·have hst := hF'.st
  rw [hm] at hst
  cases hst with
  | ret a z =>
   refine .ret a ?_
   intro t' v e
   simp only [endF] at e
   rw [Tr.get_set, Tr.get_nil] at e
   split at e
   ·rename_i ht
    cases e
    subst ht
    split at k3
    ·rename_i c2 hq
     have hv := z _ _ hq
     have : c2 = b := by simpa using k3
     subst this
     generalize c'.tmps.getD t' undef = u at hv
     cases hv
     exact .bool _
    ·cases k3
   ·cases e
theorem fn_closed {P : Program} {f : FuncId} {g : AFrame} {m : AMach} {t : Tmp} {b : Bool} (hg : enter P f [] false = some g) (h1 : Leads P ⟨g, [], ⟨0, .nil⟩⟩ m) (h2 : doneT P f t b m = true)
  (hs : (match P.funcs[f]? with | some fn => (match fn.params.toList, fn.resultTypes.toList, fn.results.toList with | [], [rt], [.tmp t'] => Nat.beq t' t && decide (sizeT P rt = some 1) && (match P.underlying rt with | some .bool => true | _ => false) | _, _, _ => false) | none => false) = true) : Fn P f [] (.bool b) := by
 intro h S as_ fn hfn hS hno ga
 rw [hfn] at hs
 simp only at hs
 split at hs
 case h_2 => cases hs
 rename_i rt t' hp hr hres
 simp only [Bool.and_eq_true, decide_eq_true_eq] at hs
 obtain ⟨⟨e1, e2⟩, e3⟩ := hs
 have e1 := beq_tt e1
 subst e1
 rw [hp] at ga
 cases ga
 split at e3
 case h_2 => cases e3
 rename_i hu
 refine ⟨g, hg, fun callers => ⟨endF f m.fr.nt t' b, h, [.bool b], Nat.le_refl _, fun _ _ => rfl, hno, ?_, rfl, rfl, rfl, rfl, ?_, leads_closed hg h1 h2 h callers⟩⟩
 ·rw [hr]
  exact ⟨_, rfl, [.bool b], ⟨e2, by rw [hu]; exact ⟨b, rfl, rfl⟩⟩, .inr ⟨by simp [isAggT, hu], rfl⟩⟩
 ·rw [hres]
  have : tmGet (endF f m.fr.nt t' b).tm t' = .bool b := by
   simp only [endF, tmGet]
   rw [Tr.get_set]; simp
  simp [aresults, this]
end Go.Sym
namespace Go.Abs
open Go.ChangeShapes Go.WideShapes
open Go.RowKit (Below)
end Go.Abs
namespace Go.Sym
open Go Go.Abs
open Go.RowKit (Below)
def WT (P : Program) : Nat → TypeId → V → Prop
 | 0, _, _ => False
 | d + 1, t, x => match P.underlying t with
  | some (.int k) => ∃ n, x = .int n ∧ k.min ≤ n ∧ n ≤ k.max
  | some .bool => ∃ b, x = .bool b
  | some .string => ∃ s, x = .str s
  | some (.slice et) => x = .nil ∨ ∃ l, x = .list l ∧ l.length ≤ Go.maxLen ∧ ∀ y ∈ l, WT P d et y
  | some (.struct fields) => ∃ xs, x = .list xs ∧ xs.length = fields.toList.length ∧ ∀ (i : Nat) f y, fields.toList[i]? = some f → xs[i]? = some y → WT P d f.type y
  | some (.array n et) => ∃ xs, x = .list xs ∧ xs.length = n ∧ ∀ y ∈ xs, WT P d et y
  | _ => False
inductive WTs (P : Program) : List TypeId → List V → Prop
 | nil : WTs P [] []
 | cons {t : TypeId} {x : V} {ts : List TypeId} {xs : List V} : WT P deep t x → WTs P ts xs → WTs P (t :: ts) (x :: xs)
def tyOk (P : Program) : Nat → TypeId → Bool
 | 0, _ => false
 | d + 1, t => match sizeT P t with
  | none => false
  | some n => match P.underlying t with
   | some (.int _) | some .bool | some .string => Nat.beq n 1
   | some (.slice et) => Nat.beq n 1 && (match sizeT P et with | some (_ + 1) => true | _ => false) && tyOk P d et
   | some (.struct fields) => decide (tight P fields.toList 0 = some n) && fields.toList.all fun f => tyOk P d f.type
   | some (.array m et) => match sizeT P et with
    | some s => Nat.beq n (m * s) && tyOk P d et
    | none => false
   | _ => false
theorem mapM_range' {α : Type} {f : Nat → Option α} : ∀ {n j : Nat} {l : List α}, (List.range' j n).mapM f = some l → l.length = n ∧ ∀ i x, l[i]? = some x → f (j + i) = some x
 | 0, j, l, e => by simp at e; subst e; exact ⟨rfl, fun i x h => by simp at h⟩
 | n + 1, j, l, e => by
  rw [List.range'_succ, List.mapM_cons] at e
  simp only [Option.bind_eq_bind, Option.bind_eq_some_iff, Option.pure_def, Option.some.injEq] at e
  obtain ⟨a, h1, r, h2, rfl⟩ := e
  obtain ⟨k1, k2⟩ := mapM_range' h2
  refine ⟨by simp [k1], fun i x hx => ?_⟩
  cases i with
  | zero => simp at hx; subst hx; exact h1
  | succ i => rw [show j + (i + 1) = j + 1 + i from by omega]; exact k2 i x (by simpa using hx)
theorem mapM_range {α : Type} {f : Nat → Option α} {n : Nat} {l : List α} (e : (List.range n).mapM f = some l) : l.length = n ∧ ∀ i x, l[i]? = some x → f i = some x := by
 rw [List.range_eq_range'] at e
 obtain ⟨h1, h2⟩ := mapM_range' e
 exact ⟨h1, fun i x hx => by simpa using h2 i x hx⟩
section
variable {H : Type} {enc : TypeId × Value → H} {P : Program} {w : World} {sp : Nat → Bool} {held : Bool}
def memOf (w : World) : Imm := fun B o => w.cell? ⟨B, o, none⟩
def noB : Nat → Prop := fun _ => False
def noMu : Mu := fun _ => none
noncomputable def noH : Heap := ⟨0, .nil⟩
theorem cell_spot {a : Addr} {v : Value} (e : w.cell? a = some v) : a = ⟨a.block, a.off, none⟩ := by
 obtain ⟨b, o, s⟩ := a
 cases s with
 | none => rfl
 | some s => unfold World.cell? at e; split at e <;> simp at e
theorem add_add (b o n : Nat) : (Addr.mk b o none).add n = ⟨b, o + n, none⟩ := Abs.add_none b o n
theorem VRels.icells {acs : List AV} {cs : List Value} {I : Imm} {B : Nat} : ∀ {o : Nat}, VRels noMu I acs cs → (∀ k v, cs[k]? = some v → I B (o + k) = some v) → ICells noMu I acs B o := by
 induction acs generalizing cs with
 | nil => intro o g h; exact .nil
 | cons a acs ih =>
  intro o g h
  cases g with
  | cons g1 g2 =>
   refine .cons (h 0 _ rfl) g1 (ih g2 fun k v hk => ?_)
   rw [show o + 1 + k = o + (k + 1) from by omega]
   exact h (k + 1) v (by simpa using hk)
theorem ICells.append {I : Imm} {B : Nat} {x y : List AV} : ∀ {o : Nat}, ICells noMu I x B o → ICells noMu I y B (o + x.length) → ICells noMu I (x ++ y) B o := by
 induction x with
 | nil => intro o _ h; simpa using h
 | cons a x ih =>
  intro o g h
  cases g with
  | cons g0 g1 g2 => exact .cons g0 g1 (ih g2 (by rw [show o + 1 + x.length = o + (a :: x).length from by simp; omega]; exact h))
theorem trod_rel : ∀ {d fuel : Nat} {t : TypeId} {cs : List Value} {dd : DataW H} {ps : List MemPlace}, tyOk P d t = true → DataW.trod enc P w 0 (fun _ => true) held fuel t cs = some (dd, ps) → sizeT P t = some cs.length →
  ∃ x acs, WT P d t x ∧ VRels noMu (memOf w) acs cs ∧ PV P noH noB d t x acs
 | 0, _, _, _, _, _, e, _, _ => by simp [tyOk] at e
 | d + 1, 0, _, _, _, _, _, e, _ => by simp [DataW.trod] at e
 | d + 1, fuel + 1, t, cs, dd, ps, ht, e, hsz => by
  have ih := @trod_rel d
  unfold tyOk at ht
  rw [hsz] at ht
  simp only at ht
  unfold DataW.trod at e
  cases hu : P.underlying t with
  | none => rw [hu] at ht; cases ht
  | some td =>
  rw [hu] at ht e
  have mkPV : ∀ {x : V} {acs : List AV}, acs.length = cs.length → (match some td with
    | some (.int k) => ∃ n, x = .int n ∧ acs = [.int k n]
    | some .bool => ∃ b, x = .bool b ∧ acs = [.bool b]
    | some .string => ∃ s, x = .str s ∧ acs = [.str s]
    | some (.slice et) => ∃ av sz, acs = [av] ∧ sizeT P et = some sz ∧ 0 < sz ∧ PSl noH noB sz (PV P noH noB d et) x av
    | some (.struct fields) => ∃ xs, x = .list xs ∧ PFl P (PV P noH noB d) fields.toList 0 xs acs
    | some (.array n et) => ∃ xs sz, x = .list xs ∧ xs.length = n ∧ sizeT P et = some sz ∧ PRow sz (PV P noH noB d et) xs acs
    | _ => False) → PV P noH noB (d + 1) t x acs := by
   intro x acs hl h
   refine ⟨by rw [hsz, hl], ?_⟩
   rw [hu]
   exact h
  have wt : ∀ {x : V}, (match some td with
    | some (.int k) => ∃ n, x = .int n ∧ k.min ≤ n ∧ n ≤ k.max
    | some .bool => ∃ b, x = .bool b
    | some .string => ∃ s, x = .str s
    | some (.slice et) => x = .nil ∨ ∃ l, x = .list l ∧ l.length ≤ Go.maxLen ∧ ∀ y ∈ l, WT P d et y
    | some (.struct fields) => ∃ xs, x = .list xs ∧ xs.length = fields.toList.length ∧ ∀ (i : Nat) f y, fields.toList[i]? = some f → xs[i]? = some y → WT P d f.type y
    | some (.array n et) => ∃ xs, x = .list xs ∧ xs.length = n ∧ ∀ y ∈ xs, WT P d et y
    | _ => False) → WT P (d + 1) t x := by
   intro x h
   unfold WT
   rw [hu]
   exact h
  cases td <;> simp only at ht <;> first | (cases ht; done) | skip
  case bool =>
   obtain ⟨v, rfl⟩ : ∃ v, cs = [v] := List.length_eq_one_iff.1 (beq_tt ht)
   cases v <;> simp at e
   rename_i b
   exact ⟨.bool b, [.bool b], wt ⟨b, rfl⟩, .cons (.bool b) .nil, mkPV rfl ⟨b, rfl, rfl⟩⟩
  case int k =>
   obtain ⟨v, rfl⟩ : ∃ v, cs = [v] := List.length_eq_one_iff.1 (beq_tt ht)
   cases v <;> simp at e
   rename_i k' n
   obtain ⟨⟨rfl, hw⟩, _⟩ := e
   simp only [Lit.wf, Bool.and_eq_true, decide_eq_true_eq] at hw
   exact ⟨.int n, [.int k' n], wt ⟨n, rfl, hw.1, hw.2⟩, .cons (.int k' n) .nil, mkPV rfl ⟨n, rfl, rfl⟩⟩
  case string =>
   obtain ⟨v, rfl⟩ : ∃ v, cs = [v] := List.length_eq_one_iff.1 (beq_tt ht)
   cases v <;> simp at e
   rename_i s
   exact ⟨.str s, [.str s], wt ⟨s, rfl⟩, .cons (.str s) .nil, mkPV rfl ⟨s, rfl, rfl⟩⟩
  case slice et =>
   simp only [Bool.and_eq_true] at ht
   obtain ⟨⟨h1, h2⟩, h3⟩ := ht
   obtain ⟨v, rfl⟩ : ∃ v, cs = [v] := List.length_eq_one_iff.1 (beq_tt h1)
   obtain ⟨sz, hs, hpos⟩ : ∃ sz, sizeT P et = some sz ∧ 0 < sz := by
    split at h2
    ·rename_i q hq; exact ⟨_, hq, by omega⟩
    ·cases h2
   have hco : P.cellsOf et = sz := by simp [Program.cellsOf]; simp [sizeT] at hs; obtain ⟨i, hi, rfl⟩ := hs; simp [hi]
   cases v <;> simp at e
   rename_i a len cap
   cases a with
   | none =>
    cases len with
    | zero =>
     cases cap with
     | zero => exact ⟨.nil, [.nils], wt (.inl rfl), .cons .nils .nil, mkPV rfl ⟨_, sz, rfl, hs, hpos, .inl ⟨rfl, rfl⟩⟩⟩
     | succ c => simp at e
    | succ l => simp at e
   | some a =>
    simp only [Option.ite_none_right_eq_some] at e
    obtain ⟨⟨hlc, hcm⟩, e⟩ := e
    simp only [Option.bind_eq_some_iff, Option.map_eq_some_iff] at e
    obtain ⟨els, e1, rest, e2, e3⟩ := e
    rw [hco] at e1 e2
    obtain ⟨k1, k2⟩ := mapM_range e1
    obtain ⟨r1, r2⟩ := mapM_range e2
    -- an element that is there
    have hadd : ∀ n, (a.add n).block = a.block ∧ (a.add n).off = a.off + n := by
     intro n; unfold Addr.add; split
     ·rename_i h; subst h; exact ⟨rfl, rfl⟩
     ·exact ⟨rfl, rfl⟩
    have elem : ∀ (i : Nat) y, (w.cells? 0 (a.add (i * sz)) sz).bind (DataW.trod enc P w 0 (fun _ => true) held fuel et) = some y → a.add (i * sz) = ⟨a.block, a.off + i * sz, none⟩ ∧ ∃ x acs, WT P d et x ∧ acs.length = sz ∧ ICells noMu (memOf w) acs a.block (a.off + i * sz) ∧ PV P noH noB d et x acs := by
     intro i y hy
     simp only [Option.bind_eq_some_iff] at hy
     obtain ⟨ecs, c1, c2⟩ := hy
     simp only [World.cells?, Nat.zero_le, if_true] at c1
     obtain ⟨m1, m2⟩ := mapM_range c1
     have hsp : a.add (i * sz) = ⟨a.block, a.off + i * sz, none⟩ := by
      cases hec : ecs with
      | nil => rw [hec] at m1; simp at m1; omega
      | cons v0 ecs' =>
       have h0 := m2 0 v0 (by rw [hec]; rfl)
       have h0' : w.cell? (a.add (i * sz)) = some v0 := by
        have : (a.add (i * sz)).add 0 = a.add (i * sz) := by unfold Addr.add; simp
        rwa [this] at h0
       have := cell_spot h0'
       rw [(hadd _).1, (hadd _).2] at this
       exact this
     obtain ⟨x, acs, p1, p2, p3⟩ := ih (dd := y.1) (ps := y.2) h3 c2 (by rw [hs, m1])
     refine ⟨hsp, x, acs, p1, by rw [p2.length, m1], VRels.icells p2 fun k v hk => ?_, p3⟩
     have := m2 k v hk
     rw [hsp, add_add] at this
     exact this
    have rows : ∀ (l : List (DataW H × List MemPlace)) (j : Nat), (∀ i y, l[i]? = some y → (w.cells? 0 (a.add ((j + i) * sz)) sz).bind (DataW.trod enc P w 0 (fun _ => true) held fuel et) = some y) →
      ∃ xs acs, xs.length = l.length ∧ (∀ y ∈ xs, WT P d et y) ∧ PRow sz (PV P noH noB d et) xs acs ∧ ICells noMu (memOf w) acs a.block (a.off + j * sz) := by
     intro l
     induction l with
     | nil => intro j _; exact ⟨[], [], rfl, by simp, rfl, .nil⟩
     | cons y l ihl =>
      intro j hl
      obtain ⟨_, x, acs, p1, p2, p3, p4⟩ := elem j y (hl 0 y rfl)
      obtain ⟨xs, acs', q1, q2, q3, q4⟩ := ihl (j + 1) fun i z hz => by
       rw [show j + 1 + i = j + (i + 1) from by omega]; exact hl (i + 1) z (by simpa using hz)
      refine ⟨x :: xs, acs ++ acs', by simp [q1], ?_, ⟨acs, acs', rfl, p2, p4, q3⟩, ICells.append p3 ?_⟩
      ·intro z hz
       rcases List.mem_cons.1 hz with rfl | hz
       ·exact p1
       ·exact q2 z hz
      ·rw [p2, show a.off + j * sz + sz = a.off + (j + 1) * sz from by rw [Nat.succ_mul]; omega]; exact q4
    obtain ⟨xs, acs, q1, q2, q3, q4⟩ := rows els 0 fun i y hy => by rw [Nat.zero_add]; exact k2 i y hy
    rw [Nat.zero_mul, Nat.add_zero] at q4
    have hxl : xs.length = len := by rw [q1, k1]
    refine ⟨.list xs, [.vslice acs len sz], wt (.inr ⟨xs, rfl, by omega, q2⟩), .cons ?_ .nil, mkPV rfl ⟨_, sz, rfl, hs, hpos, .inr ⟨xs, rfl, .inr ⟨acs, [], by rw [hxl], by simpa using q3⟩⟩⟩⟩
    have spot : 0 < cap → a = ⟨a.block, a.off, none⟩ := by
     intro hc
     have key : ∀ y, (w.cells? 0 (a.add (0 * sz)) sz).bind (DataW.trod enc P w 0 (fun _ => true) held fuel et) = some y → a = ⟨a.block, a.off, none⟩ := by
      intro y hy
      have := (elem 0 y hy).1
      rw [Nat.zero_mul] at this
      have h0 : a.add 0 = a := by unfold Addr.add; simp
      rw [h0] at this
      simpa using this
     cases hels : els with
     | cons y els' => exact key y (k2 0 y (by rw [hels]; rfl))
     | nil =>
      rw [hels] at k1
      have hl0 : len = 0 := by simpa using k1.symm
      subst hl0
      cases hrest : rest with
      | nil => rw [hrest] at r1; simp at r1; omega
      | cons y rest' => exact key y (by have := r2 0 y (by rw [hrest]; rfl); simpa using this)
    by_cases hc : cap = 0
    ·subst hc
     have : len = 0 := by omega
     subst this
     exact .vslice0
    ·have hsp := spot (by omega)
     rw [hsp]
     exact .vslice q4 hlc
  case struct fields =>
   simp only [Bool.and_eq_true, decide_eq_true_eq, List.all_eq_true] at ht
   obtain ⟨h1, h2⟩ := ht
   have hco : P.cellsOf t = cs.length := by simp [Program.cellsOf]; simp [sizeT] at hsz; obtain ⟨i, hi, q⟩ := hsz; simp [hi, q]
   have e' : (if cs.length = P.cellsOf t then (fields.toList.mapM fun f => DataW.trod enc P w 0 (fun _ => true) held fuel f.type ((cs.drop f.offset).take (P.cellsOf f.type))).map (fun xs => ((DataW.agg (xs.map (·.1)) : DataW H), xs.flatMap (·.2))) else none) = some (dd, ps) := by
    cases cs with
    | nil => exact e
    | cons c cs => exact e
   rw [if_pos hco.symm] at e'
   simp only [Option.map_eq_some_iff] at e'
   obtain ⟨l, e1, _⟩ := e'
   have key : ∀ (fs : List Field) (pos : Nat) (l : List (DataW H × List MemPlace)), (∀ f ∈ fs, tyOk P d f.type = true) → tight P fs pos = some cs.length → (fs.mapM fun f => DataW.trod enc P w 0 (fun _ => true) held fuel f.type ((cs.drop f.offset).take (P.cellsOf f.type))) = some l →
     ∃ xs acs, xs.length = fs.length ∧ (∀ (i : Nat) f y, fs[i]? = some f → xs[i]? = some y → WT P d f.type y) ∧ VRels noMu (memOf w) acs (cs.drop pos) ∧ PFl P (PV P noH noB d) fs pos xs acs ∧ pos ≤ cs.length := by
    intro fs
    induction fs with
    | nil =>
     intro pos l _ hp _
     simp [tight] at hp
     subst hp
     exact ⟨[], [], rfl, by simp, by rw [List.drop_length]; exact .nil, ⟨rfl, rfl⟩, Nat.le_refl _⟩
    | cons f fs ihf =>
     intro pos l hf hp hl
     unfold tight at hp
     split at hp
     ·rename_i s hs
      obtain ⟨ho, hp⟩ := cond_ok hp
      have ho := beq_tt ho
      rw [List.mapM_cons] at hl
      simp only [Option.bind_eq_bind, Option.bind_eq_some_iff, Option.pure_def, Option.some.injEq] at hl
      obtain ⟨y, y1, r, y2, _⟩ := hl
      obtain ⟨xs, acs, q1, q2, q3, q4, q5⟩ := ihf (pos + s) r (fun g hg => hf g (by simp [hg])) hp y2
      have hcf : P.cellsOf f.type = s := by simp [Program.cellsOf]; simp [sizeT] at hs; obtain ⟨i, hi, q⟩ := hs; simp [hi, q]
      rw [hcf, ho] at y1
      have hlen : ((cs.drop pos).take s).length = s := by simp; omega
      obtain ⟨x, bcs, p1, p2, p3⟩ := ih (dd := y.1) (ps := y.2) (hf f (by simp)) y1 (by rw [hs, hlen])
      have hb : bcs.length = s := by rw [p2.length, hlen]
      refine ⟨x :: xs, bcs ++ acs, by simp [q1], ?_, ?_, ⟨x, xs, bcs, acs, rfl, rfl, ho, p3, by rw [hb]; exact q4⟩, by omega⟩
      ·intro i g z hg hz
       cases i with
       | zero => simp at hg hz; subst hg; subst hz; exact p1
       | succ i => exact q2 i g z (by simpa using hg) (by simpa using hz)
      ·have := p2.append q3
       rw [← List.drop_drop, List.take_append_drop] at this
       exact this
     ·cases hp
   obtain ⟨xs, acs, q1, q2, q3, q4, _⟩ := key fields.toList 0 l h2 h1 e1
   rw [List.drop_zero] at q3
   exact ⟨.list xs, acs, wt ⟨xs, rfl, q1, q2⟩, q3, mkPV q3.length ⟨xs, rfl, q4⟩⟩
  case array n et =>
   split at ht
   ·rename_i s hs
    simp only [Bool.and_eq_true] at ht
    obtain ⟨h1, h2⟩ := ht
    have h1 := beq_tt h1
    have hco : P.cellsOf t = cs.length := by simp [Program.cellsOf]; simp [sizeT] at hsz; obtain ⟨i, hi, q⟩ := hsz; simp [hi, q]
    have hce : P.cellsOf et = s := by simp [Program.cellsOf]; simp [sizeT] at hs; obtain ⟨i, hi, q⟩ := hs; simp [hi, q]
    have e' : (if cs.length = P.cellsOf t then ((List.range n).mapM fun i => DataW.trod enc P w 0 (fun _ => true) held fuel et ((cs.drop (i * P.cellsOf et)).take (P.cellsOf et))).map (fun xs => ((DataW.agg (xs.map (·.1)) : DataW H), xs.flatMap (·.2))) else none) = some (dd, ps) := by
     cases cs with
     | nil => exact e
     | cons c cs => exact e
    rw [if_pos hco.symm, hce] at e'
    simp only [Option.map_eq_some_iff] at e'
    obtain ⟨l, e1, _⟩ := e'
    obtain ⟨k1, k2⟩ := mapM_range e1
    have key : ∀ (m j : Nat), j + m = n → ∃ xs acs, xs.length = m ∧ (∀ y ∈ xs, WT P d et y) ∧ VRels noMu (memOf w) acs (cs.drop (j * s)) ∧ PRow s (PV P noH noB d et) xs acs := by
     intro m
     induction m with
     | zero =>
      intro j hj
      have : j = n := by omega
      subst this
      exact ⟨[], [], rfl, by simp, by rw [List.drop_eq_nil_of_le (by omega)]; exact .nil, rfl⟩
     | succ m ihm =>
      intro j hj
      obtain ⟨xs, acs, q1, q2, q3, q4⟩ := ihm (j + 1) (by omega)
      have hjl : j < l.length := by omega
      have y1 := k2 j l[j] (by simp [hjl])
      have hle : (j + 1) * s ≤ n * s := Nat.mul_le_mul_right _ (by omega)
      have hlen : ((cs.drop (j * s)).take s).length = s := by
       rw [Nat.succ_mul] at hle
       simp; omega
      obtain ⟨x, bcs, p1, p2, p3⟩ := ih (dd := l[j].1) (ps := l[j].2) h2 y1 (by rw [hs, hlen])
      refine ⟨x :: xs, bcs ++ acs, by simp [q1], ?_, ?_, ⟨bcs, acs, rfl, by rw [p2.length, hlen], p3, q4⟩⟩
      ·intro z hz
       rcases List.mem_cons.1 hz with rfl | hz
       ·exact p1
       ·exact q2 z hz
      ·have := p2.append q3
       rw [Nat.succ_mul, ← List.drop_drop, List.take_append_drop] at this
       exact this
    obtain ⟨xs, acs, q1, q2, q3, q4⟩ := key n 0 (by omega)
    rw [Nat.zero_mul, List.drop_zero] at q3
    exact ⟨.list xs, acs, wt ⟨xs, rfl, q1, q2⟩, q3, mkPV q3.length ⟨xs, s, rfl, q1, hs, q4⟩⟩
   ·cases ht
theorem arg_rel {t : TypeId} {v : Value} {dd : DataW H} {ps : List MemPlace} (ht : tyOk P deep t = true) (hv : Value.okWide P w .any 0 t v) (e : DataW.Trod enc P w 0 (fun _ => true) held t v dd ps) :
  ∃ x a, WT P deep t x ∧ VRel noMu (memOf w) a v ∧ PVal P noH noB t x a := by
 obtain ⟨fuel, e⟩ := e
 have hag : (isAggT P t = some true ∧ ∃ cs, v = .agg cs ∧ cs.size = P.cellsOf t) ∨ (isAggT P t = some false ∧ v.cells.toList = [v] ∧ sizeT P t = some 1) := by
  unfold tyOk deep at ht
  simp only at ht
  cases hs : sizeT P t with
  | none => rw [hs] at ht; cases ht
  | some n =>
   rw [hs] at ht
   simp only at ht
   cases hu : P.underlying t with
   | none => rw [hu] at ht; cases ht
   | some td =>
    rw [hu] at ht
    cases td <;> simp only at ht <;> first | (cases ht; done) | skip
    case bool =>
     have := beq_tt ht; subst this
     obtain ⟨b, rfl⟩ := Go.WideShapes.okWide_bool hu hv
     exact .inr ⟨by simp [isAggT, hu], rfl, rfl⟩
    case int k =>
     have := beq_tt ht; subst this
     obtain ⟨b, rfl⟩ := Go.WideShapes.okWide_int hu hv
     exact .inr ⟨by simp [isAggT, hu], rfl, rfl⟩
    case string =>
     have := beq_tt ht; subst this
     obtain ⟨b, rfl⟩ := Go.WideShapes.okWide_string hu hv
     exact .inr ⟨by simp [isAggT, hu], rfl, rfl⟩
    case slice et =>
     simp only [Bool.and_eq_true] at ht
     have := beq_tt ht.1.1; subst this
     obtain ⟨a, l, c, rfl⟩ := Go.WideShapes.okWide_slice hu hv
     exact .inr ⟨by simp [isAggT, hu], rfl, rfl⟩
    case struct fields =>
     obtain ⟨cs, h1, h2⟩ := Go.WideShapes.okWide_struct hu hv
     exact .inl ⟨by simp [isAggT, hu], cs, h1, h2⟩
    case array m et =>
     have hv' := hv
     unfold Value.okWide at hv'
     rw [hu] at hv'
     obtain ⟨cs, h1, h2, _⟩ := hv'
     exact .inl ⟨by simp [isAggT, hu], cs, h1, h2⟩
 rcases hag with ⟨h1, cs, rfl, h2⟩ | ⟨h1, h2, h3⟩
 ·have hsz : sizeT P t = some cs.toList.length := by
   cases hs : sizeT P t with
   | none => unfold tyOk deep at ht; simp only at ht; rw [hs] at ht; cases ht
   | some n =>
    simp [sizeT] at hs
    obtain ⟨i, hi, q⟩ := hs
    simp [Program.cellsOf, hi, q] at h2
    simp [h2]
  obtain ⟨x, acs, p1, p2, p3⟩ := trod_rel ht e hsz
  exact ⟨x, .agg acs, p1, .agg p2, acs, p3, .inl ⟨h1, rfl⟩⟩
 ·rw [h2] at e
  obtain ⟨x, acs, p1, p2, p3⟩ := trod_rel ht e (by rw [h3]; rfl)
  cases p2 with
  | cons g1 g2 =>
   cases g2
   exact ⟨x, _, p1, g1, _, p3, .inr ⟨h1, rfl⟩⟩
theorem args_rel : ∀ {ts : List TypeId} {vs : List Value} {ds : List (DataW H)} {ps : List MemPlace}, ts.all (tyOk P deep) = true → (∀ (j : Nat) t v, ts[j]? = some t → vs[j]? = some v → Value.okWide P w .any 0 t v) → DataW.TrodAll enc P w 0 (fun _ => true) held ts vs ds ps →
  ∃ xs as_, WTs P ts xs ∧ VRels noMu (memOf w) as_ vs ∧ ArgsR P noH noB ts xs as_
 | [], [], [], ps, _, _, _ => ⟨[], [], .nil, .nil, .nil⟩
 | t :: ts, v :: vs, d :: ds, ps, ht, hv, e => by
  obtain ⟨p, q, e1, e2, _⟩ := e
  simp only [List.all_cons, Bool.and_eq_true] at ht
  obtain ⟨x, a, h1, h2, h3⟩ := arg_rel ht.1 (hv 0 t v rfl rfl) e1
  obtain ⟨xs, as_, k1, k2, k3⟩ := args_rel ht.2 (fun j t v ht hv' => hv (j + 1) t v (by simpa using ht) (by simpa using hv')) e2
  exact ⟨x :: xs, a :: as_, .cons h1 k1, .cons h2 k2, .cons h3 k3⟩
 | [], _ :: _, _, _, _, _, e => e.elim
 | [], [], _ :: _, _, _, _, e => e.elim
 | _ :: _, [], _, _, _, _, e => e.elim
 | _ :: _, _ :: _, [], _, _, _, e => e.elim
theorem law_calls [GlobI (memOf w)] {f : FuncId} {fn : Func} (hfn : P.funcs[f]? = some fn) (hF : ∀ xs, WTs P fn.params.toList xs → Fn P f xs (.bool true)) (ht : fn.params.toList.all (tyOk P deep) = true)
  (hr : (match fn.resultTypes.toList with | [rt] => (match P.underlying rt with | some .bool => true | _ => false) | _ => false) = true)
  {args : Array Value} {ds : List (DataW H)} {ps : List MemPlace} (hval : ∀ (j : Nat) t v, fn.params[j]? = some t → args[j]? = some v → Value.okWide P w .any 0 t v) (hA : DataW.TrodAll enc P w 0 (fun _ => true) held fn.params.toList args.toList ds ps) :
  Calls P f args w fun e w' => e = .returned (.bool true) ∧ Below w.heap.size w w' := by
 obtain ⟨xs, as_, h1, h2, h3⟩ := args_rel ht (fun j t v h k => hval j t v (by simpa using h) (by simpa using k)) hA
 obtain ⟨g, g1, hg⟩ := hF xs h1 noH noB as_ fn hfn (fun c hc => hc.elim) (fun c hc => by simp [noH, Heap.get, Tr.get_nil]) h3
 obtain ⟨gE, h', us, k1, k2, k3, k4, k5, k6, k7, k8, k9, k10⟩ := hg []
 have hu : us = [.bool true] := by
  split at hr
  ·rename_i rt hrt
   rw [hrt] at k4
   obtain ⟨u, rfl, cs, p1, p2⟩ := k4
   split at hr
   ·rename_i hu
    obtain ⟨_, p1⟩ := p1
    rw [hu] at p1
    obtain ⟨b, q1, q2⟩ := p1
    cases q1
    subst q2
    rcases p2 with ⟨p2, _⟩ | ⟨_, p2⟩
    ·simp [isAggT, hu] at p2
    ·simp at p2; rw [← p2]
   ·cases hr
  ·cases hr
 subst hu
 have hd : done P f ⟨gE, [], h'⟩ = some (.bool true) := by
  unfold done
  simp only [k6, k7, k5, k8, hfn, k9]
  simp
 refine (calls_of_leads (I := memOf w) (args := as_) (m0 := ⟨g, [], noH⟩) (by simp [begin_, g1, noH]) k10 hd w (fun B o v e => e) h2).mono fun e w' ⟨μ, u, he, hu, hb⟩ => ?_
 subst he
 cases hu
 exact ⟨rfl, hb⟩
end
end Go.Sym
namespace Go.Sym
def val : List Nat → Nat
 | [] => 0
 | d :: l => d + 10000 * val l
def dgF : Nat → Nat → List Nat
 | 0, _ => []
 | f + 1, n => if n = 0 then [] else n % 10000 :: dgF f (n / 10000)
def dg (n : Nat) : List Nat := dgF n n
def Ok (l : List Nat) : Prop := ∀ d ∈ l, d < 10000
def pw (i : Nat) : Nat := 10000 ^ i
def Ints (a : V) (l : List Nat) : Prop := a.els = l.map fun d => V.int (Int.ofNat d)
theorem Ints.len {a : V} {l : List Nat} (h : Ints a l) : a.len = l.length := by unfold Ints at h; simp [V.len, h]
theorem Ints.get {a : V} {l : List Nat} (h : Ints a l) {i d : Nat} (hd : l[i]? = some d) : (a.get (i : Int)).toI = d := by
 unfold Ints at h; simp [V.get, h, hd, V.toI]
theorem Ints.snoc {a : V} {l : List Nat} (h : Ints a l) (d : Nat) : Ints (a.snoc (.int d)) (l ++ [d]) := by
 unfold Ints at *; simp [V.snoc, h, show ∀ l, (V.list l).els = l from fun _ => rfl]
theorem Ints.set {a : V} {l : List Nat} (h : Ints a l) (i d : Nat) : Ints (a.set (i : Int) (.int d)) (l.set i d) := by
 unfold Ints at *; simp [V.set, h, show ∀ l, (V.list l).els = l from fun _ => rfl, List.map_set]
theorem Ints.rep (n : Nat) (d : Nat) : Ints (V.rep n (.int d)) (List.replicate n d) := by
 unfold Ints; simp [V.rep, show ∀ l, (V.list l).els = l from fun _ => rfl]
theorem Ints.app {a b : V} {l k : List Nat} (h : Ints a l) (g : Ints b k) : Ints (a.app b) (l ++ k) := by
 unfold Ints at *
 unfold V.app
 split <;> simp_all [V.els]
theorem Ints.sub {a : V} {l : List Nat} (h : Ints a l) {i j : Nat} (hij : i ≤ j) (hj : j ≤ l.length) : Ints (a.sub (i : Int) (j : Int)) ((l.take j).drop i) := by
 unfold Ints at *
 unfold V.sub
 split <;> simp_all [V.els]
theorem ints_nil : Ints .nil [] := rfl
theorem Ok.set {l : List Nat} (h : Ok l) (i d : Nat) (hd : d < 10000) : Ok (l.set i d) := by
 intro x hx
 rcases List.mem_or_eq_of_mem_set hx with q | q
 ·exact h x q
 ·omega
theorem Ok.app {l k : List Nat} (h : Ok l) (g : Ok k) : Ok (l ++ k) := by
 intro x hx
 rcases List.mem_append.1 hx with q | q
 ·exact h x q
 ·exact g x q
end Go.Sym
namespace X
open Go Go.Abs Go.Sym
theorem plain0 : (prog.funcs.toList.all fun fn => !(fn.name == "runtime.NumGoroutine")) = true := by kernel_rfl
theorem progOk : Go.Abs.ProgOk prog := ⟨by kernel_rfl, fun f fn e => by
 have h := plain0
 simp only [List.all_eq_true, Bool.not_eq_true'] at h
 exact h fn (Array.mem_toList_iff.2 (Array.mem_of_getElem? e))⟩
end X
namespace X
open Go Go.Abs Go.Sym
def cmpN (m n : Nat) : Int := if m < n then -1 else if n < m then 1 else 0
end X
namespace X
open Go Go.Abs Go.Sym
end X
namespace X
open Go Go.Abs Go.Sym
end X
namespace X
open Go Go.Abs Go.Sym
end X
namespace X
open Go Go.Abs Go.Sym
end X
namespace X
open Go Go.Abs Go.Sym
def big : Nat := 4611686018427387903
def qV (neg : Bool) (n d : Nat) : V := .list [.int (if neg then -(n : Int) else n), .int d]
def madeV (neg : Bool) (n d : Nat) : V :=
 if n / n.gcd d ≤ big ∧ d / n.gcd d ≤ big then .list [qV neg (n / n.gcd d) (d / n.gcd d), .bool true] else .list [.list [.int 0, .int 0], .bool false]
def negQ (n d : Int) : Bool := !((decide (n < 0)) == (decide (d < 0)))
def madeI (n d : Int) : V := madeV (negQ n d) n.natAbs d.natAbs
def ofQ (n d : Int) : V :=
 if n.natAbs / n.natAbs.gcd d.natAbs ≤ big ∧ d.natAbs / n.natAbs.gcd d.natAbs ≤ big then qV (negQ n d) (n.natAbs / n.natAbs.gcd d.natAbs) (d.natAbs / n.natAbs.gcd d.natAbs) else .list [.int 0, .int 0]
end X
namespace X
open Go Go.Abs Go.Sym
theorem evL : (∀ {α β : Type} {f : α → β} {a : α} {l : List α}, List.map f (a :: l) = f a :: List.map f l) ∧ (∀ {α β : Type} {f : α → β}, List.map f [] = []) ∧ (∀ {α : Type} {a : α} {k l : List α}, (a :: k) ++ l = a :: (k ++ l)) ∧ (∀ {α : Type} (l : List α), [] ++ l = l) ∧ (∀ {α : Type} (l : List α), l ++ [] = l) ∧ (∀ {α : Type} {x d : α} {xs : List α}, (x :: xs).getD 0 d = x) ∧ (∀ {α : Type} {x d : α} {xs : List α} {n : Nat}, (x :: xs).getD (n + 1) d = xs.getD n d) ∧ (∀ z : Int, (V.int z).toI = z) ∧ (∀ b : Bool, (V.bool b).toB = b) ∧ (∀ {a b : Int}, ltB a b = true ↔ a < b) ∧ (∀ {a b : Int}, leB a b = true ↔ a ≤ b) ∧ (∀ {a b : Int}, eqB a b = true ↔ a = b) ∧ (∀ {a b : Int}, eqB a b = false ↔ ¬ a = b) ∧ (∀ {a b : Int}, ltB a b = false ↔ b ≤ a) ∧ (∀ {a b : Int}, leB a b = false ↔ b < a) ∧ (∀ b : Bool, ((!b) = true) = (b = false)) ∧ (∀ b : Bool, ((!b) = false) = (b = true)) ∧ (∀ b : Bool, (!!b) = b) ∧ (∀ a b : Bool, ((a && b) = true) = (a = true ∧ b = true)) ∧ (∀ p : Prop, (p ∧ True) = p) ∧ (∀ p : Prop, (True ∧ p) = p) :=
 ⟨by simp, by simp, by simp, by simp, by simp, by simp, by simp, by simp [V.toI], by simp [V.toB], ltB_iff, leB_iff, eqB_iff, eqB_not, ltB_not, leB_not, by simp, by simp, by simp, by simp, by simp, by simp⟩
def qn (n d : Nat) : V := .list [.int n, .int d]
def can (a b : Nat) : V := qn (a / a.gcd b) (b / a.gcd b)
end X
namespace X
open Go Go.Abs Go.Sym
def Zs (x : V) (l : List Int) : Prop := x.els = l.map V.int
theorem Zs.len {a : V} {l : List Int} (h : Zs a l) : a.len = l.length := by unfold Zs at h; simp [V.len, h]
theorem Zs.get {a : V} {l : List Int} (h : Zs a l) {i : Nat} {d : Int} (hd : l[i]? = some d) : (a.get (i : Int)).toI = d := by
 unfold Zs at h; simp [V.get, h, hd, V.toI]
theorem Ints.zs {a : V} {l : List Nat} (h : Ints a l) : Zs a (l.map Int.ofNat) := by
 unfold Ints at h; unfold Zs; rw [h, List.map_map]; rfl
structure Tab (R : V) (rows : List (List Int)) : Prop where
 len : R.els.length = rows.length
 row : ∀ (j : Nat) (r : List Int), rows[j]? = some r → Zs (R.get (j : Int)) r
theorem Tab.lenI {R : V} {rows : List (List Int)} (h : Tab R rows) : R.len = rows.length := by simp [V.len, h.len]
structure GMod (G C o : Int) (R : V) (rows : List (List Int)) : Prop where
 tab : Tab R rows
 rl : rows.length ≤ 12
 rw : ∀ r ∈ rows, r.length ≤ 6
 c1 : -9223372036854775808 ≤ C
 c2 : C ≤ 9223372036854775807
theorem els_list (l : List V) : (V.list l).els = l := rfl
theorem app_nil_els (x : V) : (V.app .nil x).els = x.els := by
 unfold V.app
 split
 ·rename_i h; rw [h]; rfl
 ·rfl
theorem sub_els (x : V) (i j : Int) : (x.sub i j).els = (x.els.take j.toNat).drop i.toNat := by
 unfold V.sub
 split
 ·simp [V.els]
 ·rfl
theorem get_els {x : V} {i : Nat} (h : i < x.els.length) : x.get (i : Int) = x.els[i] := by simp [V.get, h]
theorem Zs.copy {x : V} {l : List Int} (h : Zs x l) : Zs (V.app .nil x) l := by unfold Zs at *; rw [app_nil_els, h]
theorem Zs.sub {x : V} {l : List Int} (h : Zs x l) (j : Int) : Zs (x.sub 0 j) (l.take j.toNat) := by
 unfold Zs at *; rw [sub_els, h]; simp [List.map_take]
theorem Zs.set {x : V} {l : List Int} (h : Zs x l) (i : Nat) (w : Int) : Zs (x.set (i : Int) (.int w)) (l.set i w) := by
 unfold Zs at *; simp [V.set, els_list, h, List.map_set]
theorem Zs.snoc {x : V} {l : List Int} (h : Zs x l) (w : Int) : Zs (x.snoc (.int w)) (l ++ [w]) := by
 unfold Zs at *; simp [V.snoc, els_list, h]
def TabL : List V → List (List Int) → Prop
 | [], [] => True
 | x :: xs, r :: rs => Zs x r ∧ TabL xs rs
 | _, _ => False
theorem TabL.get : ∀ {xs : List V} {rs : List (List Int)}, TabL xs rs → xs.length = rs.length ∧ ∀ (j : Nat) (r : List Int), rs[j]? = some r → ∃ x, xs[j]? = some x ∧ Zs x r
 | [], [], _ => ⟨rfl, fun j r h => by simp at h⟩
 | x :: xs, r :: rs, ⟨h1, h2⟩ => by
  obtain ⟨k1, k2⟩ := TabL.get h2
  refine ⟨by simp [k1], fun j r' h => ?_⟩
  cases j with
  | zero => simp at h; subst h; exact ⟨x, rfl, h1⟩
  | succ j => simpa using k2 j r' (by simpa using h)
 | [], _ :: _, h => h.elim
 | _ :: _, [], h => h.elim
theorem TabL.of : ∀ {xs : List V} {rs : List (List Int)}, xs.length = rs.length → (∀ (j : Nat) (r : List Int), rs[j]? = some r → ∃ x, xs[j]? = some x ∧ Zs x r) → TabL xs rs
 | [], [], _, _ => trivial
 | x :: xs, r :: rs, hl, h => by
  refine ⟨?_, TabL.of (by simpa using hl) fun j r' hj => by simpa using h (j + 1) r' (by simpa using hj)⟩
  obtain ⟨y, e, k⟩ := h 0 r rfl
  simp at e; subst e; exact k
 | [], _ :: _, hl, _ => by simp at hl
 | _ :: _, [], hl, _ => by simp at hl
theorem tab_iff {R : V} {rows : List (List Int)} : Tab R rows ↔ TabL R.els rows := by
 constructor
 ·intro h
  refine TabL.of h.len fun j r hj => ?_
  have hlt : j < R.els.length := by rw [h.len]; exact (List.getElem?_eq_some_iff.1 hj).1
  exact ⟨R.els[j], List.getElem?_eq_getElem hlt, by rw [← get_els hlt]; exact h.row j r hj⟩
 ·intro h
  obtain ⟨h1, h2⟩ := h.get
  refine ⟨h1, fun j r hj => ?_⟩
  obtain ⟨x, e, k⟩ := h2 j r hj
  have hlt := (List.getElem?_eq_some_iff.1 e).1
  rw [get_els hlt]
  have : R.els[j] = x := by rw [List.getElem?_eq_getElem hlt] at e; simpa using e
  rw [this]; exact k
theorem TabL.snoc : ∀ {xs : List V} {rs : List (List Int)} {x : V} {r : List Int}, TabL xs rs → Zs x r → TabL (xs ++ [x]) (rs ++ [r])
 | [], [], _, _, _, h => ⟨h, trivial⟩
 | _ :: _, _ :: _, _, _, ⟨h1, h2⟩, h => ⟨h1, TabL.snoc h2 h⟩
 | [], _ :: _, _, _, h, _ => h.elim
 | _ :: _, [], _, _, h, _ => h.elim
theorem TabL.set : ∀ {xs : List V} {rs : List (List Int)} {x : V} {r : List Int} (j : Nat), TabL xs rs → Zs x r → TabL (xs.set j x) (rs.set j r)
 | [], [], _, _, j, _, h => trivial
 | _ :: _, _ :: _, _, _, 0, ⟨h1, h2⟩, h => ⟨h, h2⟩
 | _ :: _, _ :: _, _, _, j + 1, ⟨h1, h2⟩, h => ⟨h1, TabL.set j h2 h⟩
 | [], _ :: _, _, _, _, h, _ => h.elim
 | _ :: _, [], _, _, _, h, _ => h.elim
theorem TabL.drop : ∀ {xs : List V} {rs : List (List Int)} (j : Nat), TabL xs rs → TabL (xs.drop j) (rs.drop j)
 | _, _, 0, h => h
 | [], [], _ + 1, _ => trivial
 | _ :: _, _ :: _, j + 1, ⟨_, h2⟩ => TabL.drop j h2
 | [], _ :: _, _ + 1, h => h.elim
 | _ :: _, [], _ + 1, h => h.elim
theorem TabL.take : ∀ {xs : List V} {rs : List (List Int)} (j : Nat), TabL xs rs → TabL (xs.take j) (rs.take j)
 | _, _, 0, h => by simp [TabL]
 | [], [], _ + 1, _ => trivial
 | _ :: _, _ :: _, j + 1, ⟨h1, h2⟩ => ⟨h1, TabL.take j h2⟩
 | [], _ :: _, _ + 1, h => h.elim
 | _ :: _, [], _ + 1, h => h.elim
theorem Tab.snoc {R x : V} {rows : List (List Int)} {r : List Int} (h : Tab R rows) (k : Zs x r) : Tab (R.snoc x) (rows ++ [r]) := tab_iff.2 ((tab_iff.1 h).snoc k)
theorem Tab.set {R x : V} {rows : List (List Int)} {r : List Int} (h : Tab R rows) (j : Nat) (k : Zs x r) : Tab (R.set (j : Int) x) (rows.set j r) := by
 refine tab_iff.2 ?_
 have := (tab_iff.1 h).set j k
 simpa [V.set, els_list] using this
theorem Tab.sub {R : V} {rows : List (List Int)} (h : Tab R rows) (i j : Int) : Tab (R.sub i j) ((rows.take j.toNat).drop i.toNat) := by
 refine tab_iff.2 ?_
 rw [sub_els]
 exact ((tab_iff.1 h).take _).drop _
theorem tab_nil : Tab .nil [] := tab_iff.2 trivial
theorem tmod_nat (a b : Nat) : ((a : Int)).tmod (b : Int) = ((a % b : Nat) : Int) := by rw [Int.tmod_eq_emod_of_nonneg (Int.natCast_nonneg _)]; rfl
end X
namespace X
open Go Go.Abs Go.Sym
def rsum (G : Int) : Int → List Int → Option Int
 | s, [] => some s
 | s, w :: r => if w < 0 ∨ G < w then none else rsum G (s + w) r
def rowB (G n : Int) (l : List Int) : Bool :=
 match rsum G 0 l with
 | some s => if (l.length : Int) = n then decide (s = G) else false
 | none => false
theorem rsum_drop {G s : Int} {l : List Int} {i : Nat} {w : Int} (h : l[i]? = some w) : rsum G s (l.drop i) = if w < 0 ∨ G < w then none else rsum G (s + w) (l.drop (i + 1)) := by
 have hlt := (List.getElem?_eq_some_iff.1 h).1
 rw [List.drop_eq_getElem_cons hlt]
 rw [List.getElem?_eq_getElem hlt] at h
 cases h
 rfl
theorem hrow_spec {x : V} {l : List Int} (hx : Zs x l) (hl : l.length ≤ 1000) {G : Int} (n : Int) (g1 : 0 ≤ G) (g2 : G ≤ 12) : Fn prog hrow.f [x, .int n, .int G] (.bool (rowB G n l)) := by
 have xl := hx.len
 have loop : ∀ (t i : Nat) (s i' : Int), t + i = l.length → i' = i → 0 ≤ s → s ≤ 12 * i → rsum G 0 l = rsum G s (l.drop i) → Comes hrow.K hrow.f hrow.s1 ⟨[s, i'], [], [x, .int n, .int G]⟩ (.bool (rowB G n l)) := by
  intro t
  induction t with
  | zero =>
   intro i s i' ht hi h0 h1 hs
   subst hi
   have : i = l.length := by omega
   subst this
   rw [List.drop_length] at hs
   have hs : rsum G 0 l = some s := hs
   by_cases hn : (l.length : Int) = n
   ·refine Comes.last progOk hrow.p4 [] ?_ ?_
    ·simp only [FT, IB, EvOk, E.b, E.i, E.v, Env.ext, evL]; rw [xl]; omega
    ·simp only [FT, IB, EvOk, E.b, E.i, E.v, Env.ext, evL]; unfold rowB; rw [hs]; simp only [if_pos hn, eqB]
   ·refine Comes.last progOk hrow.p5 [] ?_ ?_
    ·simp only [FT, IB, EvOk, E.b, E.i, E.v, Env.ext, evL]; rw [xl]; omega
    ·simp only [FT, IB, EvOk, E.b, E.i, E.v, Env.ext, evL]; unfold rowB; rw [hs]; simp only [if_neg hn]
  | succ t ih =>
   intro i s i' ht hi h0 h1 hs
   subst hi
   obtain ⟨w, hw⟩ : ∃ e', l[i]? = some e' := ⟨_, List.getElem?_eq_getElem (by omega)⟩
   have gw := hx.get hw
   rw [rsum_drop hw] at hs
   by_cases a : w < 0
   ·rw [if_pos (.inl a)] at hs
    refine Comes.last progOk hrow.p1 [] ?_ ?_
    ·simp only [FT, IB, EvOk, E.b, E.i, E.v, Env.ext, evL]; rw [xl, gw]; omega
    ·simp only [FT, IB, EvOk, E.b, E.i, E.v, Env.ext, evL]; unfold rowB; rw [hs]
   ·by_cases b : G < w
    ·rw [if_pos (.inr b)] at hs
     refine Comes.last progOk hrow.p2 [] ?_ ?_
     ·simp only [FT, IB, EvOk, E.b, E.i, E.v, Env.ext, evL]; rw [xl, gw]; omega
     ·simp only [FT, IB, EvOk, E.b, E.i, E.v, Env.ext, evL]; unfold rowB; rw [hs]
    ·rw [if_neg (by omega)] at hs
     have nx := ih (i + 1) (s + w) ((i : Int) + 1) (by omega) (by omega) (by omega) (by omega) hs
     rw [← gw] at nx
     refine Comes.step progOk hrow.p3 [] ?_ nx
     simp only [FT, IB, EvOk, E.b, E.i, E.v, Env.ext, evL]; rw [xl, gw]; omega
 exact Fn.of (C := hrow.K) hrow.b (Comes.step progOk hrow.p0 [] trivial (loop l.length 0 0 0 (by omega) rfl (by omega) (by omega) rfl))
theorem rrow_spec {x : V} {l : List Int} (hx : Zs x l) (hl : l.length ≤ 1000) {G : Int} (n : Int) (g1 : 0 ≤ G) (g2 : G ≤ 12) : Fn prog rrow.f [x, .int n, .int G] (.bool (rowB G n l)) := by
 have xl := hx.len
 have loop : ∀ (t i : Nat) (s i' : Int), t + i = l.length → i' = i → 0 ≤ s → s ≤ 12 * i → rsum G 0 l = rsum G s (l.drop i) → Comes rrow.K rrow.f rrow.s1 ⟨[s, i'], [], [x, .int n, .int G]⟩ (.bool (rowB G n l)) := by
  intro t
  induction t with
  | zero =>
   intro i s i' ht hi h0 h1 hs
   subst hi
   have : i = l.length := by omega
   subst this
   rw [List.drop_length] at hs
   have hs : rsum G 0 l = some s := hs
   by_cases hn : (l.length : Int) = n
   ·refine Comes.last progOk rrow.p4 [] ?_ ?_
    ·simp only [FT, IB, EvOk, E.b, E.i, E.v, Env.ext, evL]; rw [xl]; omega
    ·simp only [FT, IB, EvOk, E.b, E.i, E.v, Env.ext, evL]; unfold rowB; rw [hs]; simp only [if_pos hn, eqB]
   ·refine Comes.last progOk rrow.p5 [] ?_ ?_
    ·simp only [FT, IB, EvOk, E.b, E.i, E.v, Env.ext, evL]; rw [xl]; omega
    ·simp only [FT, IB, EvOk, E.b, E.i, E.v, Env.ext, evL]; unfold rowB; rw [hs]; simp only [if_neg hn]
  | succ t ih =>
   intro i s i' ht hi h0 h1 hs
   subst hi
   obtain ⟨w, hw⟩ : ∃ e', l[i]? = some e' := ⟨_, List.getElem?_eq_getElem (by omega)⟩
   have gw := hx.get hw
   rw [rsum_drop hw] at hs
   by_cases a : w < 0
   ·rw [if_pos (.inl a)] at hs
    refine Comes.last progOk rrow.p1 [] ?_ ?_
    ·simp only [FT, IB, EvOk, E.b, E.i, E.v, Env.ext, evL]; rw [xl, gw]; omega
    ·simp only [FT, IB, EvOk, E.b, E.i, E.v, Env.ext, evL]; unfold rowB; rw [hs]
   ·by_cases b : G < w
    ·rw [if_pos (.inr b)] at hs
     refine Comes.last progOk rrow.p2 [] ?_ ?_
     ·simp only [FT, IB, EvOk, E.b, E.i, E.v, Env.ext, evL]; rw [xl, gw]; omega
     ·simp only [FT, IB, EvOk, E.b, E.i, E.v, Env.ext, evL]; unfold rowB; rw [hs]
    ·rw [if_neg (by omega)] at hs
     have nx := ih (i + 1) (s + w) ((i : Int) + 1) (by omega) (by omega) (by omega) (by omega) hs
     rw [← gw] at nx
     refine Comes.step progOk rrow.p3 [] ?_ nx
     simp only [FT, IB, EvOk, E.b, E.i, E.v, Env.ext, evL]; rw [xl, gw]; omega
 exact Fn.of (C := rrow.K) rrow.b (Comes.step progOk rrow.p0 [] trivial (loop l.length 0 0 0 (by omega) rfl (by omega) (by omega) rfl))
end X
namespace X
open Go Go.Abs Go.Sym
def rowsB (G n : Int) (rows : List (List Int)) : Bool := rows.all (rowB G n)
theorem hrows_spec {R : V} {rows : List (List Int)} (tab : Tab R rows) (hl : rows.length ≤ 1000) (h6 : ∀ r ∈ rows, r.length ≤ 1000) {G : Int} (k n : Int) (g1 : 0 ≤ G) (g2 : G ≤ 12) : Fn prog hrows.f [R, .int k, .int n, .int G] (.bool (rowsB G n rows && decide ((rows.length : Int) = k))) := by
 have xl := tab.lenI
 have loop : ∀ (t i : Nat) (i' : Int), t + i = rows.length → i' = i → Comes hrows.K hrows.f hrows.s1 ⟨[i'], [], [R, .int k, .int n, .int G]⟩ (.bool ((rows.drop i).all (rowB G n) && decide ((rows.length : Int) = k))) := by
  intro t
  induction t with
  | zero =>
   intro i i' ht hi
   subst hi
   rw [List.drop_eq_nil_of_le (by omega)]
   refine Comes.last progOk hrows.p3 [] ?_ ?_
   ·simp only [FT, IB, EvOk, E.b, E.i, E.v, Env.ext, evL]; rw [xl]; omega
   ·simp only [FT, IB, EvOk, E.b, E.i, E.v, Env.ext, evL]; rw [xl]; simp [eqB]
  | succ t ih =>
   intro i i' ht hi
   subst hi
   obtain ⟨r, hr⟩ : ∃ e', rows[i]? = some e' := ⟨_, List.getElem?_eq_getElem (by omega)⟩
   have hz := tab.row i r hr
   have f := hrow_spec hz (h6 r (List.mem_of_getElem? hr)) n g1 g2
   have hd : rows.drop i = r :: rows.drop (i + 1) := by
    have hlt := (List.getElem?_eq_some_iff.1 hr).1
    rw [List.drop_eq_getElem_cons hlt]
    rw [List.getElem?_eq_getElem hlt] at hr
    cases hr; rfl
   rw [hd]
   simp only [List.all_cons]
   cases hb : rowB G n r with
   | false =>
    rw [hb] at f
    simp only [Bool.false_and]
    refine Comes.last progOk hrows.p1 [.bool false] ?_ (by simp [E.v, Env.ext, E.b])
    simp only [FT, IB, EvOk, E.b, E.i, E.v, Env.ext, evL]; rw [xl]
    exact ⟨by omega, by omega, f⟩
   | true =>
    rw [hb] at f
    simp only [Bool.true_and]
    refine Comes.step progOk hrows.p2 [.bool true] ?_ (ih (i + 1) ((i : Int) + 1) (by omega) (by omega))
    simp only [FT, IB, EvOk, E.b, E.i, E.v, Env.ext, evL]; rw [xl]
    exact ⟨by omega, by omega, f, by omega⟩
 have := loop rows.length 0 0 (by omega) rfl
 rw [List.drop_zero] at this
 exact Fn.of (C := hrows.K) hrows.b (Comes.step progOk hrows.p0 [] trivial this)
end X
namespace X
open Go Go.Abs Go.Sym
def hm (G : Int) (F S W : V) : V := .list [.int G, F, S, W]
structure HMod (G : Int) (F S W : V) (f : List Int) (s w : List (List Int)) : Prop where
 first : Zs F f
 step : Tab S s
 shw : Tab W w
 f6 : f.length ≤ 6
 s6 : s.length ≤ 6
 w6 : w.length ≤ 6
 sr : ∀ r ∈ s, r.length ≤ 6
 wr : ∀ r ∈ w, r.length ≤ 6
def hdl (w : List (List Int)) : Nat := (w.headD []).length
def okH (G : Int) (f : List Int) (s w : List (List Int)) : Bool :=
 decide (1 ≤ G ∧ G ≤ 12 ∧ 1 ≤ f.length ∧ f.length ≤ 4 ∧ w.length = f.length ∧ 1 ≤ hdl w ∧ hdl w ≤ 4) && (rowB G f.length f && ((rowsB G f.length s && decide ((s.length : Int) = f.length)) && (rowsB G (hdl w) w && decide ((w.length : Int) = f.length))))
theorem hd_len {W : V} {w : List (List Int)} (t : Tab W w) (h : 0 < w.length) : (W.get 0).len = (hdl w : Int) := by
 have := (t.row 0 _ (List.getElem?_eq_getElem h)).len
 rw [show ((0 : Nat) : Int) = 0 from rfl] at this
 rw [this]; unfold hdl
 cases w with
 | nil => simp at h
 | cons a l => rfl
theorem hvalid_spec {G : Int} {F S W : V} {f : List Int} {s w : List (List Int)} (M : HMod G F S W f s w) : Fn prog hvalid.f [hm G F S W] (.bool (okH G f s w)) := by
 have m0 : ((hm G F S W).get 0).toI = G := rfl
 have m1 : (hm G F S W).get 1 = F := rfl
 have m2 : (hm G F S W).get 2 = S := rfl
 have m3 : (hm G F S W).get 3 = W := rfl
 have lf := M.first.len
 have ls := M.step.lenI
 have lw := M.shw.lenI
 have h1 := M.f6
 have h2 := M.s6
 have h3 := M.w6
 refine Fn.of (C := hvalid.K) hvalid.b ?_
 by_cases c : 1 ≤ G ∧ G ≤ 12 ∧ 1 ≤ f.length ∧ f.length ≤ 4 ∧ w.length = f.length
 rotate_left
 ·have e : okH G f s w = false := by
   unfold okH
   rw [decide_eq_false (fun q => c ⟨q.1, q.2.1, q.2.2.1, q.2.2.2.1, q.2.2.2.2.1⟩), Bool.false_and]
  rw [e]
  by_cases a0 : G < 1
  ·refine Comes.last progOk hvalid.p0 [] ?_ rfl
   simp only [FT, IB, EvOk, E.b, E.i, E.v, Env.ext, evL]; rw [m0]; omega
  by_cases a1 : 12 < G
  ·refine Comes.last progOk hvalid.p1 [] ?_ rfl
   simp only [FT, IB, EvOk, E.b, E.i, E.v, Env.ext, evL]; rw [m0]; omega
  by_cases a2 : f.length < 1
  ·refine Comes.last progOk hvalid.p2 [] ?_ rfl
   simp only [FT, IB, EvOk, E.b, E.i, E.v, Env.ext, evL]; rw [m0, m1, lf]; omega
  by_cases a3 : 4 < f.length
  ·refine Comes.last progOk hvalid.p3 [] ?_ rfl
   simp only [FT, IB, EvOk, E.b, E.i, E.v, Env.ext, evL]; rw [m0, m1, lf]; omega
  ·refine Comes.last progOk hvalid.p4 [] ?_ rfl
   simp only [FT, IB, EvOk, E.b, E.i, E.v, Env.ext, evL]; rw [m0, m1, m3, lf, lw]; omega
 obtain ⟨c1, c2, c3, c4, c5⟩ := c
 have hw0 := hd_len M.shw (by omega)
 by_cases k1 : 1 ≤ hdl w
 rotate_left
 ·have e : okH G f s w = false := by
   unfold okH
   rw [decide_eq_false (fun q => k1 q.2.2.2.2.2.1), Bool.false_and]
  rw [e]
  refine Comes.last progOk hvalid.p9 [] ?_ rfl
  simp only [FT, IB, EvOk, E.b, E.i, E.v, Env.ext, evL]; rw [m0, m1, m3, lf, lw, hw0]; omega
 by_cases k2 : hdl w ≤ 4
 rotate_left
 ·have e : okH G f s w = false := by
   unfold okH
   rw [decide_eq_false (fun q => k2 q.2.2.2.2.2.2), Bool.false_and]
  rw [e]
  refine Comes.last progOk hvalid.p8 [] ?_ rfl
  simp only [FT, IB, EvOk, E.b, E.i, E.v, Env.ext, evL]; rw [m0, m1, m3, lf, lw, hw0]; omega
 have e : okH G f s w = (rowB G f.length f && ((rowsB G f.length s && decide ((s.length : Int) = f.length)) && (rowsB G (hdl w) w && decide ((w.length : Int) = f.length)))) := by
  unfold okH
  rw [decide_eq_true ⟨c1, c2, c3, c4, c5, k1, k2⟩, Bool.true_and]
 rw [e]
 have f1 := hrow_spec M.first (by omega) (G := G) f.length (by omega) c2
 have f2 := hrows_spec M.step (by omega) (fun r h => by have := M.sr r h; omega) (G := G) f.length f.length (by omega) c2
 have f3 := hrows_spec M.shw (by omega) (fun r h => by have := M.wr r h; omega) (G := G) f.length (hdl w) (by omega) c2
 cases hb1 : rowB G f.length f with
 | false =>
  rw [hb1] at f1
  simp only [Bool.false_and]
  refine Comes.last progOk hvalid.p7 [.bool false] ?_ rfl
  simp only [FT, IB, EvOk, E.b, E.i, E.v, Env.ext, evL]; rw [m0, m1, m3, lf, lw, hw0]
  exact ⟨by omega, by omega, by omega, by omega, by omega, by omega, by omega, by omega, f1⟩
 | true =>
  rw [hb1] at f1
  simp only [Bool.true_and]
  cases hb2 : (rowsB G f.length s && decide ((s.length : Int) = f.length)) with
  | false =>
   rw [hb2] at f2
   simp only [Bool.false_and]
   refine Comes.last progOk hvalid.p6 [.bool true, .bool false] ?_ rfl
   simp only [FT, IB, EvOk, E.b, E.i, E.v, Env.ext, evL]; rw [m0, m1, m2, m3, lf, lw, hw0]
   exact ⟨by omega, by omega, by omega, by omega, by omega, by omega, by omega, by omega, f1, f2⟩
  | true =>
   rw [hb2] at f2
   simp only [Bool.true_and]
   refine Comes.last progOk hvalid.p5 [.bool true, .bool true, .bool (rowsB G (hdl w) w && decide ((w.length : Int) = f.length))] ?_ (by simp [E.v, Env.ext, E.b, V.toB])
   simp only [FT, IB, EvOk, E.b, E.i, E.v, Env.ext, evL]; rw [m0, m1, m2, m3, lf, lw, hw0]
   exact ⟨by omega, by omega, by omega, by omega, by omega, by omega, by omega, by omega, f1, f2, f3⟩
end X
namespace X
open Go Go.Abs Go.Sym
theorem rsum_true {G : Int} : ∀ {l : List Int} {s t : Int}, rsum G s l = some t ↔ (∀ x ∈ l, 0 ≤ x ∧ x ≤ G) ∧ t = s + l.sum
 | [], s, t => by simp [rsum, eq_comm]
 | w :: r, s, t => by
  unfold rsum
  by_cases h : w < 0 ∨ G < w
  ·rw [if_pos h]
   constructor
   ·intro q; cases q
   ·rintro ⟨q, _⟩; have := q w (by simp); omega
  ·rw [if_neg h, rsum_true (l := r)]
   simp only [List.mem_cons, forall_eq_or_imp, List.sum_cons]
   constructor
   ·rintro ⟨a, b⟩; exact ⟨⟨by omega, a⟩, by omega⟩
   ·rintro ⟨⟨a, b⟩, c⟩; exact ⟨b, by omega⟩
theorem rowB_true {G n : Int} {l : List Int} : rowB G n l = true ↔ (l.length : Int) = n ∧ (∀ x ∈ l, 0 ≤ x ∧ x ≤ G) ∧ l.sum = G := by
 unfold rowB
 cases h : rsum G 0 l with
 | none =>
  constructor
  ·intro q; cases q
  ·rintro ⟨_, b, c⟩
   have : rsum G 0 l = some (0 + l.sum) := rsum_true.2 ⟨b, rfl⟩
   rw [h] at this; cases this
 | some s =>
  obtain ⟨k1, k2⟩ := rsum_true.1 h
  by_cases hn : (l.length : Int) = n
  ·simp only [if_pos hn, decide_eq_true_eq]
   constructor
   ·intro q; exact ⟨hn, k1, by omega⟩
   ·rintro ⟨_, _, c⟩; omega
  ·simp only [if_neg hn]
   constructor
   ·intro q; cases q
   ·rintro ⟨q, _⟩; exact absurd q hn
structure HOk (G : Int) (f : List Int) (s w : List (List Int)) (n k : Nat) : Prop where
 g1 : 1 ≤ G
 g2 : G ≤ 12
 n1 : 1 ≤ n
 n4 : n ≤ 4
 k1 : 1 ≤ k
 k4 : k ≤ 4
 fl : f.length = n
 sl : s.length = n
 wl : w.length = n
 fr : rowB G n f = true
 sr : ∀ r ∈ s, rowB G n r = true
 wr : ∀ r ∈ w, rowB G k r = true
theorem okH_iff {G : Int} {f : List Int} {s w : List (List Int)} : okH G f s w = true ↔ ∃ n k, HOk G f s w n k := by
 unfold okH rowsB
 simp only [Bool.and_eq_true, decide_eq_true_eq, List.all_eq_true]
 constructor
 ·rintro ⟨⟨a1, a2, a3, a4, a5, a6, a7⟩, b, ⟨c, d⟩, ⟨e, f'⟩⟩
  exact ⟨f.length, hdl w, a1, a2, a3, a4, a6, a7, rfl, by omega, by omega, b, c, e⟩
 ·rintro ⟨n, k, H⟩
  have hk : hdl w = k := by
   unfold hdl
   cases hw : w with
   | nil => have := H.wl; have := H.n1; rw [hw] at *; simp at *; omega
   | cons a l =>
    have := (rowB_true.1 (H.wr a (by rw [hw]; simp))).1
    simp; omega
  have := H.fl; have := H.sl; have := H.wl; have := H.g1; have := H.g2; have := H.n1; have := H.n4; have := H.k1; have := H.k4
  refine ⟨⟨by omega, by omega, by omega, by omega, by omega, by omega, by omega⟩, ?_, ⟨?_, by omega⟩, ⟨?_, by omega⟩⟩
  ·rw [H.fl]; exact H.fr
  ·rw [H.fl]; exact H.sr
  ·rw [hk]; exact H.wr
theorem HOk.mod {G : Int} {f : List Int} {s w : List (List Int)} {n k : Nat} (H : HOk G f s w n k) {F S W : V} (h1 : Zs F f) (h2 : Tab S s) (h3 : Tab W w) : HMod G F S W f s w :=
 ⟨h1, h2, h3, by have := H.fl; have := H.n4; omega, by have := H.sl; have := H.n4; omega, by have := H.wl; have := H.n4; omega,
  fun r hr => by have := (rowB_true.1 (H.sr r hr)).1; have := H.n4; omega, fun r hr => by have := (rowB_true.1 (H.wr r hr)).1; have := H.k4; omega⟩
theorem Split17_spec {a : V} {l : List Nat} (ha : Ints a l) (hl : ∀ x ∈ l, x ≤ 255) {n G : Nat} (n1 : 1 ≤ n) (n2 : n ≤ 1000) (hG : G ≤ 1000) : ∃ r L, Ints r L ∧ L.length = n ∧ L.sum = G ∧ Fn prog Split17.f [.int n, .int G, a] r := by
 have la := ha.len
 have loop : ∀ (t i left : Nat) (i' left' : Int) (out : V) (L : List Nat), t + i = n → i' = i → left' = left → Ints out L → L.length = i → L.sum + left = G → (t = 0 → left = 0) → ∃ r, (∃ L, Ints r L ∧ L.length = n ∧ L.sum = G) ∧ Comes Split17.K Split17.f Split17.s1 ⟨[left', i'], [], [.int n, .int G, a, out]⟩ r := by
  intro t
  induction t with
  | zero =>
   intro i left i' left' out L ht hi hle hout hL hs h0
   subst hi hle
   refine ⟨out, ⟨L, hout, by omega, by have := h0 rfl; omega⟩, Comes.last progOk Split17.p4 [] ?_ ?_⟩
   ·simp only [FT, IB, EvOk, E.b, E.i, E.v, Env.ext, evL]; omega
   ·simp only [FT, IB, EvOk, E.b, E.i, E.v, Env.ext, evL]
  | succ t ih =>
   intro i left i' left' out L ht hi hle hout hL hs h0
   subst hi hle
   have lo := hout.len
   by_cases h1 : i < n - 1
   ·by_cases h2 : i < l.length
    ·obtain ⟨d, hd⟩ : ∃ e, l[i]? = some e := ⟨_, List.getElem?_eq_getElem h2⟩
     have gd := ha.get hd
     have hd255 := hl d (List.mem_of_getElem? hd)
     have hm : ((d : Int)).tmod ((left : Int) + 1) = ((d % (left + 1) : Nat) : Int) := by rw [Int.tmod_eq_emod_of_nonneg (by omega)]; rfl
     have hlt : d % (left + 1) < left + 1 := Nat.mod_lt _ (by omega)
     obtain ⟨r, r1, r2⟩ := ih (i + 1) (left - d % (left + 1)) ((i : Int) + 1) ((left : Int) - ((a.get (i : Int)).toI).tmod ((left : Int) + 1)) (out.snoc (.int (((a.get (i : Int)).toI).tmod ((left : Int) + 1)))) (L ++ [d % (left + 1)]) (by omega) (by omega) (by rw [gd, hm]; omega) (by rw [gd, hm]; exact hout.snoc _) (by simp [hL]) (by simp; omega) (by omega)
     refine ⟨r, r1, Comes.step progOk Split17.p1 [] ?_ r2⟩
     simp only [FT, IB, EvOk, E.b, E.i, E.v, Env.ext, evL]
     rw [gd, hm]
     omega
    ·obtain ⟨r, r1, r2⟩ := ih (i + 1) left ((i : Int) + 1) ((left : Int) - 0) (out.snoc (.int 0)) (L ++ [0]) (by omega) (by omega) (by omega) (hout.snoc 0) (by simp [hL]) (by simp; omega) (by omega)
     refine ⟨r, r1, Comes.step progOk Split17.p2 [] ?_ r2⟩
     simp only [FT, IB, EvOk, E.b, E.i, E.v, Env.ext, evL]
     omega
   ·obtain ⟨r, r1, r2⟩ := ih (i + 1) 0 ((i : Int) + 1) ((left : Int) - left) (out.snoc (.int left)) (L ++ [left]) (by omega) (by omega) (by omega) (hout.snoc _) (by simp [hL]) (by simp; omega) (by omega)
    refine ⟨r, r1, Comes.step progOk Split17.p3 [] ?_ r2⟩
    simp only [FT, IB, EvOk, E.b, E.i, E.v, Env.ext, evL]
    omega
 obtain ⟨r, ⟨L, h1, h2, h3⟩, r2⟩ := loop n 0 G 0 G .nil [] (by omega) rfl rfl ints_nil rfl (by simp) (by omega)
 exact ⟨r, L, h1, h2, h3, Fn.of (C := Split17.K) Split17.b (Comes.step progOk Split17.p0 [] trivial r2)⟩
structure Dr (D : V) (g n k : Nat) (l : List Nat) (e : List Nat) (L S : V) : Prop where
 eq : D = .list [.int g, .int n, .int k, L, S]
 g : g ≤ 255
 n : n ≤ 255
 k : k ≤ 255
 L : Ints L l
 S : Ints S e
 lx : ∀ x ∈ l, x ≤ 255
 ex : ∀ x ∈ e, x ≤ 255
 ll : l.length ≤ 9223372036854775807
 el : e.length ≤ 9223372036854775807
theorem from17_spec {D : V} {g n k : Nat} {l e : List Nat} {L S : V} (X : Dr D g n k l e L S) (at_ : Nat) (ha : at_ ≤ 1000) : ∃ r p, Ints r p ∧ (∀ x ∈ p, x ≤ 255) ∧ p.length ≤ 4 ∧ Fn prog from17.f [D, .int at_] r := by
 have hD := X.eq
 have e3 : D.get 3 = L := by rw [hD]; rfl
 have lL := X.L.len
 have ll := X.ll
 by_cases h0 : l.length = 0
 ·refine ⟨.nil, [], ints_nil, by simp, by simp, Fn.of (C := from17.K) from17.b (Comes.last progOk from17.p0 [] ?_ ?_)⟩
  ·simp only [FT, IB, EvOk, E.b, E.i, E.v, Env.ext, evL]; rw [e3, lL]; omega
  ·simp only [FT, IB, EvOk, E.b, E.i, E.v, Env.ext, evL]
 ·have loop : ∀ (t i : Nat) (i' : Int) (o : V) (p : List Nat), t + i = 4 → i' = i → Ints o p → p.length = i → (∀ x ∈ p, x ≤ 255) → ∃ r, (∃ p, Ints r p ∧ (∀ x ∈ p, x ≤ 255) ∧ p.length ≤ 4) ∧ Comes from17.K from17.f from17.s1 ⟨[i'], [], [D, .int at_, o]⟩ r := by
   intro t
   induction t with
   | zero =>
    intro i i' o p ht hi ho hp hx
    subst hi
    refine ⟨o, ⟨p, ho, hx, by omega⟩, Comes.last progOk from17.p3 [] ?_ ?_⟩
    ·simp only [FT, IB, EvOk, E.b, E.i, E.v, Env.ext, evL]; omega
    ·simp only [FT, IB, EvOk, E.b, E.i, E.v, Env.ext, evL]
   | succ t ih =>
    intro i i' o p ht hi ho hp hx
    subst hi
    have lo := ho.len
    have hm : ((at_ : Int) + i).tmod (l.length : Int) = (((at_ + i) % l.length : Nat) : Int) := by
     rw [Int.tmod_eq_emod_of_nonneg (by omega)]; rfl
    have hlt : (at_ + i) % l.length < l.length := Nat.mod_lt _ (by omega)
    obtain ⟨d, hd⟩ : ∃ e, l[(at_ + i) % l.length]? = some e := ⟨_, List.getElem?_eq_getElem hlt⟩
    have gd := X.L.get hd
    have hd255 := X.lx d (List.mem_of_getElem? hd)
    obtain ⟨r, r1, r2⟩ := ih (i + 1) ((i : Int) + 1) (o.snoc (.int d)) (p ++ [d]) (by omega) (by omega) (ho.snoc d) (by simp [hp]) (by intro y hy; simp at hy; rcases hy with hy | hy; exact hx y hy; omega)
    refine ⟨r, r1, Comes.step progOk from17.p2 [] ?_ ?_⟩
    ·simp only [FT, IB, EvOk, E.b, E.i, E.v, Env.ext, evL]; rw [e3, lL, hm]; omega
    ·simp only [Sub.ev, E.v, E.i, Env.ext, List.map_cons, List.map_nil, evL]
     rw [e3, lL, hm, gd]
     exact r2
  obtain ⟨r, ⟨p, h1, h2, h3⟩, r2⟩ := loop 4 0 0 .nil [] (by omega) rfl ints_nil rfl (by simp)
  refine ⟨r, p, h1, h2, h3, Fn.of (C := from17.K) from17.b (Comes.step progOk from17.p1 [] ?_ r2)⟩
  simp only [FT, IB, EvOk, E.b, E.i, E.v, Env.ext, evL]; rw [e3, lL]; omega
end X
namespace X
open Go Go.Abs Go.Sym
theorem sum_ofNat : ∀ l : List Nat, (l.map Int.ofNat).sum = (l.sum : Int)
 | [] => rfl
 | a :: l => by simp [sum_ofNat l]
theorem mem_le_sum : ∀ {l : List Nat} {x : Nat}, x ∈ l → x ≤ l.sum
 | a :: l, x, h => by
  rcases List.mem_cons.1 h with rfl | h
  ·simp
  ·have := mem_le_sum h; simp; omega
theorem nrow {G n : Nat} {l : List Nat} (h1 : l.length = n) (h2 : l.sum = G) : rowB G n (l.map Int.ofNat) = true := by
 refine rowB_true.2 ⟨by simp [h1], ?_, by rw [sum_ofNat, h2]⟩
 intro x hx
 obtain ⟨y, hy, rfl⟩ := List.mem_map.1 hx
 have := mem_le_sum hy
 exact ⟨Int.natCast_nonneg _, by simp; omega⟩
theorem DraftHidden_spec {D : V} {g n k : Nat} {l e : List Nat} {L S : V} (X : Dr D g n k l e L S) : ∃ F S' W f s w, HOk ((1 + g % 12 : Nat) : Int) f s w (1 + n % 4) (1 + k % 4) ∧ Zs F f ∧ Tab S' s ∧ Tab W w ∧ Fn prog DraftHidden.f [D] (hm ((1 + g % 12 : Nat) : Int) F S' W) := by
 have hD := X.eq
 have e0 : (D.get 0).toI = g := by rw [hD]; rfl
 have e1 : (D.get 1).toI = n := by rw [hD]; rfl
 have e2 : (D.get 2).toI = k := by rw [hD]; rfl
 have e3 : D.get 3 = L := by rw [hD]; rfl
 have e4 : D.get 4 = S := by rw [hD]; rfl
 have m0 : ((g : Int)).tmod 12 = ((g % 12 : Nat) : Int) := tmod_nat g 12
 have m1 : ((n : Int)).tmod 4 = ((n % 4 : Nat) : Int) := tmod_nat n 4
 have m2 : ((k : Int)).tmod 4 = ((k % 4 : Nat) : Int) := tmod_nat k 4
 have b0 : g % 12 < 12 := Nat.mod_lt _ (by omega)
 have b1 : n % 4 < 4 := Nat.mod_lt _ (by omega)
 have b2 : k % 4 < 4 := Nat.mod_lt _ (by omega)
 have frm : ∀ a : Nat, a ≤ 1000 → ∃ r p, Ints r p ∧ (∀ x ∈ p, x ≤ 255) ∧ Fn prog from17.f [.list [.int g, .int n, .int k, L, S], .int a] r := by
  intro a ha
  obtain ⟨r, p, p1, p2, p3, p4⟩ := from17_spec X a ha
  rw [hD] at p4
  exact ⟨r, p, p1, p2, p4⟩
 generalize hG : g % 12 = G at *
 generalize hN : n % 4 = N at *
 generalize hK : k % 4 = K at *
 obtain ⟨r0, p0, a1, a2, a3⟩ := frm 0 (by omega)
 obtain ⟨F, fl, f1, f2, f3, f4⟩ := Split17_spec a1 a2 (n := 1 + N) (G := 1 + G) (by omega) (by omega) (by omega)
 rw [Int.natCast_add, Int.natCast_add] at f4
 have loop : ∀ (t j : Nat) (j' : Int) (x0 A B : V) (s w : List (List Int)), t + j = 1 + N → j' = j → Tab A s → Tab B w → s.length = j → w.length = j → (∀ r ∈ s, rowB ((1 + G : Nat) : Int) ((1 + N : Nat) : Int) r = true) → (∀ r ∈ w, rowB ((1 + G : Nat) : Int) ((1 + K : Nat) : Int) r = true) →
   ∃ q, (∃ A B s w, HOk ((1 + G : Nat) : Int) (fl.map Int.ofNat) s w (1 + N) (1 + K) ∧ Tab A s ∧ Tab B w ∧ q = hm ((1 + G : Nat) : Int) F A B) ∧ Comes DraftHidden.K DraftHidden.f DraftHidden.s1 ⟨[j'], [], [D, x0, F, A, B]⟩ q := by
  intro t
  induction t with
  | zero =>
   intro j j' x0 A B s w ht hj hA hB hs hw hr1 hr2
   subst hj
   refine ⟨_, ⟨A, B, s, w, ⟨by omega, by omega, by omega, by omega, by omega, by omega, by simp [f2], by omega, by omega, nrow f2 f3, hr1, hr2⟩, hA, hB, rfl⟩, Comes.last progOk DraftHidden.p2 [] ?_ ?_⟩
   ·simp only [FT, IB, EvOk, E.b, E.i, E.v, Env.ext, evL]; rw [e1, m1]; omega
   ·simp only [FT, IB, EvOk, E.b, E.i, E.v, Env.ext, evL]; rw [e0, m0]; rfl
  | succ t ih =>
   intro j j' x0 A B s w ht hj hA hB hs hw hr1 hr2
   subst hj
   obtain ⟨r1, q1, a1, a2, a3⟩ := frm (4 + 8 * j) (by omega)
   obtain ⟨x, xl, x1, x2, x3, x4⟩ := Split17_spec a1 a2 (n := 1 + N) (G := 1 + G) (by omega) (by omega) (by omega)
   obtain ⟨r2, q2, c1, c2, c3⟩ := frm (8 + 8 * j) (by omega)
   obtain ⟨y, yl, y1, y2, y3, y4⟩ := Split17_spec c1 c2 (n := 1 + K) (G := 1 + G) (by omega) (by omega) (by omega)
   rw [Int.natCast_add, Int.natCast_add] at x4 y4
   rw [Int.natCast_add, Int.natCast_mul] at a3 c3
   obtain ⟨q, z1, z2⟩ := ih (j + 1) ((j : Int) + 1) x0 (A.snoc x) (B.snoc y) (s ++ [xl.map Int.ofNat]) (w ++ [yl.map Int.ofNat]) (by omega) (by omega) (hA.snoc (Ints.zs x1)) (hB.snoc (Ints.zs y1)) (by simp [hs]) (by simp [hw])
    (by intro r hr; simp only [List.mem_append, List.mem_singleton] at hr; rcases hr with hr | rfl; exact hr1 r hr; exact nrow x2 x3)
    (by intro r hr; simp only [List.mem_append, List.mem_singleton] at hr; rcases hr with hr | rfl; exact hr2 r hr; exact nrow y2 y3)
   refine ⟨q, z1, Comes.step progOk DraftHidden.p1 [r1, x, r2, y] ?_ z2⟩
   simp only [FT, IB, EvOk, E.b, E.i, E.v, Env.ext, evL]
   rw [e0, e1, e2, e3, e4, m0, m1, m2, hA.lenI, hB.lenI]
   exact ⟨by omega, by omega, by omega, a3, x4, by omega, by omega, by omega, c3, y4, by omega, by omega⟩
 obtain ⟨q, ⟨A, B, s, w, H, hA, hB, rfl⟩, q2⟩ := loop (1 + N) 0 0 r0 .nil .nil [] [] (by omega) rfl tab_nil tab_nil rfl rfl (by simp) (by simp)
 refine ⟨F, A, B, _, s, w, H, (Ints.zs f1), hA, hB, Fn.of (C := DraftHidden.K) DraftHidden.b (Comes.step progOk DraftHidden.p0 [r0, F] ?_ q2)⟩
 simp only [FT, IB, EvOk, E.b, E.i, E.v, Env.ext, evL]
 rw [e0, e1, e2, e3, e4, m0, m1, m2]
 exact ⟨by omega, by omega, by omega, by omega, by omega, by omega, a3, f4⟩
theorem DraftWhat_spec {D : V} {g n k : Nat} {l e : List Nat} {L S : V} (X : Dr D g n k l e L S) : ∃ r o, Zs r o ∧ 1 ≤ o.length ∧ o.length ≤ 8 ∧ (∀ x ∈ o, -1 ≤ x ∧ x < ((1 + k % 4 : Nat) : Int)) ∧ Fn prog DraftWhat.f [D] r := by
 have hD := X.eq
 have e2 : (D.get 2).toI = k := by rw [hD]; rfl
 have e4 : D.get 4 = S := by rw [hD]; rfl
 have m2 : ((k : Int)).tmod 4 = ((k % 4 : Nat) : Int) := tmod_nat k 4
 have b2 : k % 4 < 4 := Nat.mod_lt _ (by omega)
 have lS := X.S.len
 have elx := X.el
 have loop : ∀ (t i : Nat) (i' : Int) (o : V) (p : List Int), t + i = 8 → i' = i → Zs o p → p.length = i → i ≤ e.length → (∀ x ∈ p, -1 ≤ x ∧ x < ((1 + k % 4 : Nat) : Int)) → ∃ r, (∃ p, Zs r p ∧ 1 ≤ p.length ∧ p.length ≤ 8 ∧ (∀ x ∈ p, -1 ≤ x ∧ x < ((1 + k % 4 : Nat) : Int))) ∧ Comes DraftWhat.K DraftWhat.f DraftWhat.s1 ⟨[i'], [], [D, o]⟩ r := by
  intro t
  induction t with
  | zero =>
   intro i i' o p ht hi ho hp hie hx
   subst hi
   have lo := ho.len
   by_cases h1 : i < e.length
   ·refine ⟨o, ⟨p, ho, by omega, by omega, hx⟩, Comes.last progOk DraftWhat.p3 [] ?_ ?_⟩
    ·simp only [FT, IB, EvOk, E.b, E.i, E.v, Env.ext, evL]; rw [e4, lS, lo]; omega
    ·simp only [FT, IB, EvOk, E.b, E.i, E.v, Env.ext, evL]
   ·refine ⟨o, ⟨p, ho, by omega, by omega, hx⟩, Comes.last progOk DraftWhat.p5 [] ?_ ?_⟩
    ·simp only [FT, IB, EvOk, E.b, E.i, E.v, Env.ext, evL]; rw [e4, lS, lo]; omega
    ·simp only [FT, IB, EvOk, E.b, E.i, E.v, Env.ext, evL]
  | succ t ih =>
   intro i i' o p ht hi ho hp hie hx
   subst hi
   have lo := ho.len
   by_cases h1 : i < e.length
   ·obtain ⟨d, hd⟩ : ∃ x, e[i]? = some x := ⟨_, List.getElem?_eq_getElem h1⟩
    have gd := X.S.get hd
    have hd255 := X.ex d (List.mem_of_getElem? hd)
    have hm : ((d : Int)).tmod (2 + ((k % 4 : Nat) : Int)) = ((d % (2 + k % 4) : Nat) : Int) := by
     have := tmod_nat d (2 + k % 4)
     rw [← this]; congr 1
    have hlt : d % (2 + k % 4) < 2 + k % 4 := Nat.mod_lt _ (by omega)
    obtain ⟨r, r1, r2⟩ := ih (i + 1) ((i : Int) + 1) (o.snoc (.int (((d % (2 + k % 4) : Nat) : Int) - 1))) (p ++ [((d % (2 + k % 4) : Nat) : Int) - 1]) (by omega) (by omega) (ho.snoc _) (by simp [hp]) (by omega) (by
     intro y hy; simp only [List.mem_append, List.mem_singleton] at hy
     rcases hy with hy | rfl
     ·exact hx y hy
     ·omega)
    refine ⟨r, r1, Comes.step progOk DraftWhat.p1 [] ?_ ?_⟩
    ·simp only [FT, IB, EvOk, E.b, E.i, E.v, Env.ext, evL]; rw [e2, e4, lS, lo, gd, m2, hm]; omega
    ·simp only [Sub.ev, E.v, E.i, Env.ext, List.map_cons, List.map_nil, evL]
     rw [e2, e4, gd, m2, hm]
     exact r2
   ·by_cases h0 : i = 0
    ·subst h0
     refine ⟨.list [.int (-1)], ⟨[-1], rfl, by simp, by simp, by simp; omega⟩, Comes.last progOk DraftWhat.p4 [] ?_ ?_⟩
     ·simp only [FT, IB, EvOk, E.b, E.i, E.v, Env.ext, evL]; rw [e4, lS, lo]; omega
     ·simp only [FT, IB, EvOk, E.b, E.i, E.v, Env.ext, evL]; rfl
    ·refine ⟨o, ⟨p, ho, by omega, by omega, hx⟩, Comes.last progOk DraftWhat.p5 [] ?_ ?_⟩
     ·simp only [FT, IB, EvOk, E.b, E.i, E.v, Env.ext, evL]; rw [e4, lS, lo]; omega
     ·simp only [FT, IB, EvOk, E.b, E.i, E.v, Env.ext, evL]
 obtain ⟨r, ⟨p, h1, h2, h3, h4⟩, r2⟩ := loop 8 0 0 .nil [] (by omega) rfl rfl rfl (by omega) (by simp)
 exact ⟨r, p, h1, h2, h3, h4, Fn.of (C := DraftWhat.K) DraftWhat.b (Comes.step progOk DraftWhat.p0 [] trivial r2)⟩
end X
namespace X
open Go Go.Abs Go.Sym
theorem copied17_spec {R : V} {rows : List (List Int)} (tab : Tab R rows) (hl : rows.length ≤ 1000) (h6 : ∀ r ∈ rows, r.length ≤ 1000) : ∃ R', Tab R' rows ∧ FnO prog copied17.f [R] R' := by
 have xl := tab.lenI
 have loop : ∀ (t i : Nat) (i' : Int) (o : V), t + i = rows.length → i' = i → Tab o (rows.take i) → ∃ R', Tab R' rows ∧ ComesO copied17.K copied17.f copied17.s1 ⟨[i'], [], [R, o]⟩ R' := by
  intro t
  induction t with
  | zero =>
   intro i i' o ht hi ho
   subst hi
   rw [List.take_of_length_le (by omega)] at ho
   refine ⟨o, ho, ComesO.last progOk copied17.p2 [] ?_ ?_⟩
   ·simp only [FT, IB, EvOk, E.b, E.i, E.v, Env.ext, evL]; rw [xl]; omega
   ·simp only [FT, IB, EvOk, E.b, E.i, E.v, Env.ext, evL]
  | succ t ih =>
   intro i i' o ht hi ho
   subst hi
   have lo := ho.lenI
   rw [List.length_take, Nat.min_eq_left (by omega)] at lo
   obtain ⟨r, hr⟩ : ∃ r, rows[i]? = some r := ⟨_, List.getElem?_eq_getElem (by omega)⟩
   have hz := tab.row i r hr
   have hzl := hz.len
   have r4 := h6 r (List.mem_of_getElem? hr)
   obtain ⟨R', q1, q2⟩ := ih (i + 1) ((i : Int) + 1) (o.snoc (V.app .nil (R.get (i : Int)))) (by omega) (by omega) (by rw [List.take_add_one, hr]; exact ho.snoc hz.copy)
   refine ⟨R', q1, ComesO.step progOk copied17.p1 [] ?_ q2⟩
   simp only [FT, IB, EvOk, E.b, E.i, E.v, Env.ext, evL]; rw [xl, hzl, lo]; omega
 obtain ⟨R', q1, q2⟩ := loop rows.length 0 0 .nil (by omega) rfl tab_nil
 exact ⟨R', q1, FnO.of (C := copied17.K) copied17.b (ComesO.step progOk copied17.p0 [] trivial q2)⟩
theorem set_rows6 {rows : List (List Int)} {j : Nat} {r : List Int} (h : ∀ r ∈ rows, r.length ≤ 4) (hr : r.length ≤ 6) : ∀ x ∈ rows.set j r, x.length ≤ 6 := by
 intro x hx
 rcases List.mem_or_eq_of_mem_set hx with q | q
 ·have := h x q; omega
 ·subst q; exact hr
theorem Bend17a {G : Int} {f : List Int} {s w : List (List Int)} {n k : Nat} (H : HOk G f s w n k) {F S W : V} (h1 : Zs F f) (h2 : Tab S s) (h3 : Tab W w) {u j a : Nat} {N : Int} (hu : u ≤ 255) (hj : j ≤ 255) (ha : a ≤ 255) (hlo : u % 8 < 4) (hN1 : -9223372036854775808 ≤ N) (hN2 : N ≤ 9223372036854775807) :
  ∃ G' F' S' W' f' s' w', HMod G' F' S' W' f' s' w' ∧ Fn prog BendOf17.f [.list [.int u, .int j, .int a, .int N], hm G F S W] (hm G' F' S' W') := by
 have n1 := H.n1; have n4 := H.n4; have k1 := H.k1; have k4 := H.k4; have fl := H.fl; have sl := H.sl; have wl := H.wl
 have s4 : ∀ r ∈ s, r.length = n := fun r hr => by have := (rowB_true.1 (H.sr r hr)).1; omega
 have w4 : ∀ r ∈ w, r.length = k := fun r hr => by have := (rowB_true.1 (H.wr r hr)).1; omega
 obtain ⟨S1, t1, c1⟩ := copied17_spec h2 (by omega) (fun r hr => by have := s4 r hr; omega)
 obtain ⟨W1, t2, c2⟩ := copied17_spec h3 (by omega) (fun r hr => by have := w4 r hr; omega)
 have hF := h1.copy
 have lF := h1.len
 have lF1 := hF.len
 have lS := t1.lenI
 have lW := t2.lenI
 have g0 : ((hm G F S W).get 0).toI = G := rfl
 have g1 : (hm G F S W).get 1 = F := rfl
 have g2 : (hm G F S W).get 2 = S := rfl
 have g3 : (hm G F S W).get 3 = W := rfl
 generalize hB : V.list [.int u, .int j, .int a, .int N] = B
 have b0 : (B.get 0).toI = u := by rw [← hB]; rfl
 have b1 : (B.get 1).toI = j := by rw [← hB]; rfl
 have b2 : (B.get 2).toI = a := by rw [← hB]; rfl
 have b3 : (B.get 3).toI = N := by rw [← hB]; rfl
 have hu8 : ((u : Int)).tmod 8 = ((u % 8 : Nat) : Int) := tmod_nat u 8
 have hlt : u % 8 < 8 := Nat.mod_lt _ (by omega)
 have hjn : ((j : Int)).tmod (n : Int) = ((j % n : Nat) : Int) := tmod_nat j n
 have han : ((a : Int)).tmod (n : Int) = ((a % n : Nat) : Int) := tmod_nat a n
 have hak : ((a : Int)).tmod (k : Int) = ((a % k : Nat) : Int) := tmod_nat a k
 have ljn : j % n < n := Nat.mod_lt _ (by omega)
 have lan : a % n < n := Nat.mod_lt _ (by omega)
 have lak : a % k < k := Nat.mod_lt _ (by omega)
 obtain ⟨rs, hrs⟩ : ∃ r, s[j % n]? = some r := ⟨_, List.getElem?_eq_getElem (by omega)⟩
 obtain ⟨rw', hrw⟩ : ∃ r, w[j % n]? = some r := ⟨_, List.getElem?_eq_getElem (by omega)⟩
 have zs := t1.row _ _ hrs
 have zw := t2.row _ _ hrw
 have ls := s4 rs (List.mem_of_getElem? hrs)
 have lw := w4 rw' (List.mem_of_getElem? hrw)
 have lzs := zs.len
 have lzw := zw.len
 rw [ls] at lzs
 rw [lw] at lzw
 rw [fl] at lF lF1
 rw [sl] at lS
 rw [wl] at lW
 have f6 : f.length ≤ 6 := by omega
 have s6 : ∀ r ∈ s, r.length ≤ 6 := fun r hr => by have := s4 r hr; omega
 have w6 : ∀ r ∈ w, r.length ≤ 6 := fun r hr => by have := w4 r hr; omega
 have fin : ∀ {e : V}, Fn prog BendOf17.f [B, hm G F S W] e → Fn prog BendOf17.f [B, hm G F S W] e := fun h => h
 by_cases w0 : u % 8 = 0
 ·refine ⟨N, V.app .nil F, S1, W1, f, s, w, ⟨hF, t1, t2, f6, by omega, by omega, s6, w6⟩, Fn.of (C := BendOf17.K) BendOf17.b (Comes.last progOk BendOf17.p0 [S1, W1] ?_ ?_)⟩
  ·simp only [FT, IB, EvOk, E.b, E.i, E.v, Env.ext, evL]; rw [g1, g2, g3, b0, b1, b2, hu8, lF]; exact ⟨c1, c2, by omega, by omega, by omega, by omega⟩
  ·simp only [FT, IB, EvOk, E.b, E.i, E.v, Env.ext, evL]; rw [g1, b3]; rfl
 by_cases w1 : u % 8 = 1
 ·refine ⟨G, _, S1, W1, _, s, w, ⟨hF.set (a % n) N, t1, t2, by simpa using f6, by omega, by omega, s6, w6⟩, Fn.of (C := BendOf17.K) BendOf17.b (Comes.last progOk BendOf17.p1 [S1, W1] ?_ ?_)⟩
  ·simp only [FT, IB, EvOk, E.b, E.i, E.v, Env.ext, evL]; rw [g1, g2, g3, b0, b1, b2, hu8, lF1, lF, han]; exact ⟨c1, c2, by omega, by omega, by omega, by omega, by omega, by omega, by omega, by omega⟩
  ·simp only [FT, IB, EvOk, E.b, E.i, E.v, Env.ext, evL]; rw [g0, g1, b2, b3, lF1, han]; rfl
 by_cases w2 : u % 8 = 2
 ·refine ⟨G, _, _, W1, f, _, w, ⟨hF, t1.set (j % n) (zs.set (a % n) N), t2, f6, by simp; omega, by omega, set_rows6 (fun r hr => by have := s4 r hr; omega) (by simp; omega), w6⟩, Fn.of (C := BendOf17.K) BendOf17.b (Comes.last progOk BendOf17.p2 [S1, W1] ?_ ?_)⟩
  ·simp only [FT, IB, EvOk, E.b, E.i, E.v, Env.ext, evL]; rw [g1, g2, g3, b0, b1, b2, hu8, lF, lS, hjn, lzs, han]; exact ⟨c1, c2, by omega, by omega, by omega, by omega, by omega, by omega, by omega, by omega, by omega, by omega, by omega, by omega, by omega⟩
  ·simp only [FT, IB, EvOk, E.b, E.i, E.v, Env.ext, evL]; rw [g0, g1, b1, b2, b3, lS, hjn, lzs, han]; rfl
 by_cases w3 : u % 8 = 3
 ·refine ⟨G, _, S1, _, f, s, _, ⟨hF, t1, t2.set (j % n) (zw.set (a % k) N), f6, by omega, by simp; omega, s6, set_rows6 (fun r hr => by have := w4 r hr; omega) (by simp; omega)⟩, Fn.of (C := BendOf17.K) BendOf17.b (Comes.last progOk BendOf17.p3 [S1, W1] ?_ ?_)⟩
  ·simp only [FT, IB, EvOk, E.b, E.i, E.v, Env.ext, evL]; rw [g1, g2, g3, b0, b1, b2, hu8, lF, lW, hjn, lzw, hak]; exact ⟨c1, c2, by omega, by omega, by omega, by omega, by omega, by omega, by omega, by omega, by omega, by omega, by omega, by omega, by omega, by omega⟩
  ·simp only [FT, IB, EvOk, E.b, E.i, E.v, Env.ext, evL]; rw [g0, g1, b1, b2, b3, lW, hjn, lzw, hak]; rfl
 ·omega
theorem Bend17b {G : Int} {f : List Int} {s w : List (List Int)} {n k : Nat} (H : HOk G f s w n k) {F S W : V} (h1 : Zs F f) (h2 : Tab S s) (h3 : Tab W w) {u j a : Nat} {N : Int} (hu : u ≤ 255) (hj : j ≤ 255) (ha : a ≤ 255) (hlo : ¬ u % 8 < 4) (hN1 : -9223372036854775808 ≤ N) (hN2 : N ≤ 9223372036854775807) :
  ∃ G' F' S' W' f' s' w', HMod G' F' S' W' f' s' w' ∧ Fn prog BendOf17.f [.list [.int u, .int j, .int a, .int N], hm G F S W] (hm G' F' S' W') := by
 have n1 := H.n1; have n4 := H.n4; have k1 := H.k1; have k4 := H.k4; have fl := H.fl; have sl := H.sl; have wl := H.wl
 have s4 : ∀ r ∈ s, r.length = n := fun r hr => by have := (rowB_true.1 (H.sr r hr)).1; omega
 have w4 : ∀ r ∈ w, r.length = k := fun r hr => by have := (rowB_true.1 (H.wr r hr)).1; omega
 obtain ⟨S1, t1, c1⟩ := copied17_spec h2 (by omega) (fun r hr => by have := s4 r hr; omega)
 obtain ⟨W1, t2, c2⟩ := copied17_spec h3 (by omega) (fun r hr => by have := w4 r hr; omega)
 have hF := h1.copy
 have lF := h1.len
 have lF1 := hF.len
 have lS := t1.lenI
 have lW := t2.lenI
 have g0 : ((hm G F S W).get 0).toI = G := rfl
 have g1 : (hm G F S W).get 1 = F := rfl
 have g2 : (hm G F S W).get 2 = S := rfl
 have g3 : (hm G F S W).get 3 = W := rfl
 generalize hB : V.list [.int u, .int j, .int a, .int N] = B
 have b0 : (B.get 0).toI = u := by rw [← hB]; rfl
 have b1 : (B.get 1).toI = j := by rw [← hB]; rfl
 have b2 : (B.get 2).toI = a := by rw [← hB]; rfl
 have b3 : (B.get 3).toI = N := by rw [← hB]; rfl
 have hu8 : ((u : Int)).tmod 8 = ((u % 8 : Nat) : Int) := tmod_nat u 8
 have hlt : u % 8 < 8 := Nat.mod_lt _ (by omega)
 have hjn : ((j : Int)).tmod (n : Int) = ((j % n : Nat) : Int) := tmod_nat j n
 have han : ((a : Int)).tmod (n : Int) = ((a % n : Nat) : Int) := tmod_nat a n
 have hak : ((a : Int)).tmod (k : Int) = ((a % k : Nat) : Int) := tmod_nat a k
 have ljn : j % n < n := Nat.mod_lt _ (by omega)
 have lan : a % n < n := Nat.mod_lt _ (by omega)
 have lak : a % k < k := Nat.mod_lt _ (by omega)
 obtain ⟨rs, hrs⟩ : ∃ r, s[j % n]? = some r := ⟨_, List.getElem?_eq_getElem (by omega)⟩
 obtain ⟨rw', hrw⟩ : ∃ r, w[j % n]? = some r := ⟨_, List.getElem?_eq_getElem (by omega)⟩
 have zs := t1.row _ _ hrs
 have zw := t2.row _ _ hrw
 have ls := s4 rs (List.mem_of_getElem? hrs)
 have lw := w4 rw' (List.mem_of_getElem? hrw)
 have lzs := zs.len
 have lzw := zw.len
 rw [ls] at lzs
 rw [lw] at lzw
 rw [fl] at lF lF1
 rw [sl] at lS
 rw [wl] at lW
 have f6 : f.length ≤ 6 := by omega
 have s6 : ∀ r ∈ s, r.length ≤ 6 := fun r hr => by have := s4 r hr; omega
 have w6 : ∀ r ∈ w, r.length ≤ 6 := fun r hr => by have := w4 r hr; omega
 have fin : ∀ {e : V}, Fn prog BendOf17.f [B, hm G F S W] e → Fn prog BendOf17.f [B, hm G F S W] e := fun h => h
 by_cases w4' : u % 8 = 4
 ·refine ⟨G, _, _, W1, f, _, w, ⟨hF, t1.sub 1 S1.len, t2, f6, by rw [List.length_drop, List.length_take]; omega, by omega, fun r hr => s6 r (List.mem_of_mem_take (List.mem_of_mem_drop hr)), w6⟩, Fn.of (C := BendOf17.K) BendOf17.b (Comes.last progOk BendOf17.p4 [S1, W1] ?_ ?_)⟩
  ·simp only [FT, IB, EvOk, E.b, E.i, E.v, Env.ext, evL]; rw [g1, g2, g3, b0, b1, b2, hu8, lF, lS]; exact ⟨c1, c2, by omega, by omega, by omega, by omega, by omega, by omega, by omega, by omega, by omega, by omega⟩
  ·simp only [FT, IB, EvOk, E.b, E.i, E.v, Env.ext, evL]; rw [g0, g1]; rfl
 by_cases w5 : u % 8 = 5
 ·refine ⟨G, _, S1, _, f, s, _, ⟨hF, t1, t2.set (j % n) (zw.snoc 0), f6, by omega, by simp; omega, s6, set_rows6 (fun r hr => by have := w4 r hr; omega) (by simp; omega)⟩, Fn.of (C := BendOf17.K) BendOf17.b (Comes.last progOk BendOf17.p5 [S1, W1] ?_ ?_)⟩
  ·simp only [FT, IB, EvOk, E.b, E.i, E.v, Env.ext, evL]; rw [g1, g2, g3, b0, b1, b2, hu8, lF, lW, hjn, lzw]; exact ⟨c1, c2, by omega, by omega, by omega, by omega, by omega, by omega, by omega, by omega, by omega, by omega, by omega, by omega, by omega, by omega, by omega, by omega, by omega⟩
  ·simp only [FT, IB, EvOk, E.b, E.i, E.v, Env.ext, evL]; rw [g0, g1, b1, lW, hjn]; rfl
 by_cases w6' : u % 8 = 6
 ·refine ⟨G, _, S1, W1, _, s, w, ⟨hF.snoc 0, t1, t2, by simp; omega, by omega, by omega, s6, w6⟩, Fn.of (C := BendOf17.K) BendOf17.b (Comes.last progOk BendOf17.p6 [S1, W1] ?_ ?_)⟩
  ·simp only [FT, IB, EvOk, E.b, E.i, E.v, Env.ext, evL]; rw [g1, g2, g3, b0, b1, b2, hu8, lF, lF1]; exact ⟨c1, c2, by omega, by omega, by omega, by omega, by omega, by omega, by omega, by omega, by omega, by omega, by omega⟩
  ·simp only [FT, IB, EvOk, E.b, E.i, E.v, Env.ext, evL]; rw [g0, g1]; rfl
 ·refine ⟨G, _, S1, .nil, f, s, [], ⟨hF, t1, tab_nil, f6, by omega, by simp, s6, by simp⟩, Fn.of (C := BendOf17.K) BendOf17.b (Comes.last progOk BendOf17.p7 [S1, W1] ?_ ?_)⟩
  ·simp only [FT, IB, EvOk, E.b, E.i, E.v, Env.ext, evL]; rw [g1, g2, g3, b0, b1, b2, hu8, lF]; exact ⟨c1, c2, by omega, by omega, by omega, by omega, by omega, by omega, by omega, by omega, by omega, by omega⟩
  ·simp only [FT, IB, EvOk, E.b, E.i, E.v, Env.ext, evL]; rw [g0, g1]; rfl
theorem BendOf17_spec {G : Int} {f : List Int} {s w : List (List Int)} {n k : Nat} (H : HOk G f s w n k) {F S W : V} (h1 : Zs F f) (h2 : Tab S s) (h3 : Tab W w) {u j a : Nat} {N : Int} (hu : u ≤ 255) (hj : j ≤ 255) (ha : a ≤ 255) (hN1 : -9223372036854775808 ≤ N) (hN2 : N ≤ 9223372036854775807) :
  ∃ G' F' S' W' f' s' w', HMod G' F' S' W' f' s' w' ∧ Fn prog BendOf17.f [.list [.int u, .int j, .int a, .int N], hm G F S W] (hm G' F' S' W') := by
 by_cases q : u % 8 < 4
 ·exact Bend17a H h1 h2 h3 hu hj ha q hN1 hN2
 ·exact Bend17b H h1 h2 h3 hu hj ha q hN1 hN2
end X
namespace X
open Go Go.Abs Go.Sym
theorem min6 {x : V} {n : Nat} (h : x.len = n) : minI x.len 6 = ((min n 6 : Nat) : Int) := by
 rw [h]; unfold minI; split <;> omega
theorem few_row {S o : V} {rr os : List (List Int)} {i : Nat} {r : List Int} (ho : Tab o os) (hz : Zs (S.get (i : Int)) r) (h6 : ∀ r ∈ os, r.length ≤ 6) : Tab (o.snoc ((S.get (i : Int)).sub 0 (minI ((S.get (i : Int)).len) 6))) (os ++ [r.take (min r.length 6)]) ∧ ∀ x ∈ os ++ [r.take (min r.length 6)], x.length ≤ 6 := by
 have hz2 := hz.sub ((min r.length 6 : Nat) : Int)
 rw [Int.toNat_natCast] at hz2
 rw [min6 hz.len]
 refine ⟨ho.snoc hz2, ?_⟩
 intro x hx
 rcases List.mem_append.1 hx with q | q
 ·exact h6 x q
 ·simp only [List.mem_singleton] at q; subst q; rw [List.length_take]; omega
theorem few17_spec {G : Int} {F S W : V} {f : List Int} {s w : List (List Int)} (h1 : Zs F f) (h2 : Tab S s) (h3 : Tab W w) : ∃ F' S' W' f' s' w', HMod G F' S' W' f' s' w' ∧ Fn prog few17.f [hm G F S W] (hm G F' S' W') := by
 have g0 : ((hm G F S W).get 0).toI = G := rfl
 have g1 : (hm G F S W).get 1 = F := rfl
 have g2 : (hm G F S W).get 2 = S := rfl
 have g3 : (hm G F S W).get 3 = W := rfl
 have lF := h1.len
 have lS := h2.lenI
 have lW := h3.lenI
 have hF := h1.sub ((min f.length 6 : Nat) : Int)
 have hS := h2.sub 0 ((min s.length 6 : Nat) : Int)
 have hW := h3.sub 0 ((min w.length 6 : Nat) : Int)
 simp only [Int.toNat_natCast, Int.toNat_zero, List.drop_zero] at hF hS hW
 have sl := hS.lenI
 have wl := hW.lenI
 rw [List.length_take, show min (min s.length 6) s.length = min s.length 6 by omega] at sl
 rw [List.length_take, show min (min w.length 6) w.length = min w.length 6 by omega] at wl
 generalize hS0 : S.sub 0 ((min s.length 6 : Nat) : Int) = S0 at *
 generalize hW0 : W.sub 0 ((min w.length 6 : Nat) : Int) = W0 at *
 have srl : (s.take (min s.length 6)).length = min s.length 6 := by rw [List.length_take]; omega
 have wrl : (w.take (min w.length 6)).length = min w.length 6 := by rw [List.length_take]; omega
 generalize s.take (min s.length 6) = rs at *
 generalize w.take (min w.length 6) = rw_ at *
 have fin : ∀ {A B : V} {a b : List (List Int)}, Tab A a → Tab B b → a.length ≤ 6 → b.length ≤ 6 → (∀ r ∈ a, r.length ≤ 6) → (∀ r ∈ b, r.length ≤ 6) → HMod G (F.sub 0 ((min f.length 6 : Nat) : Int)) A B (f.take (min f.length 6)) a b :=
  fun a b c d e f' => ⟨hF, a, b, by rw [List.length_take]; omega, c, d, e, f'⟩
 have loop2 : ∀ (A : V) (a : List (List Int)), Tab A a → a.length ≤ 6 → (∀ r ∈ a, r.length ≤ 6) → ∀ (t i : Nat) (i' : Int) (o : V) (os : List (List Int)), t + i = rw_.length → i' = i → Tab o os → os.length = i → (∀ r ∈ os, r.length ≤ 6) → ∃ q, (∃ A B a b, HMod G (F.sub 0 ((min f.length 6 : Nat) : Int)) A B (f.take (min f.length 6)) a b ∧ q = hm G (F.sub 0 ((min f.length 6 : Nat) : Int)) A B) ∧ Comes few17.K few17.f few17.s2 ⟨[i'], [], [hm G F S W, A, o]⟩ q := by
  intro A a hA ha1 ha2 t
  induction t with
  | zero =>
   intro i i' o os ht hi ho hl h6
   subst hi
   refine ⟨_, ⟨_, _, _, _, fin hA ho ha1 (by omega) ha2 h6, rfl⟩, Comes.last progOk few17.p4 [] ?_ ?_⟩
   ·simp only [FT, IB, EvOk, E.b, E.i, E.v, Env.ext, evL]; rw [g3, min6 lW, hW0, wl]; omega
   ·simp only [FT, IB, EvOk, E.b, E.i, E.v, Env.ext, evL]; rw [g0, g1, min6 lF]; rfl
  | succ t ih =>
   intro i i' o os ht hi ho hl h6
   subst hi
   obtain ⟨r, hr⟩ : ∃ r, rw_[i]? = some r := ⟨_, List.getElem?_eq_getElem (by omega)⟩
   have hz := hW.row i r hr
   have hzl := hz.len
   have hol := ho.lenI
   obtain ⟨k1, k2⟩ := few_row (rr := rw_) ho hz h6
   obtain ⟨q, q1, q2⟩ := ih (i + 1) ((i : Int) + 1) _ _ (by omega) (by omega) k1 (by simp [hl]) k2
   refine ⟨q, q1, Comes.step progOk few17.p3 [] ?_ ?_⟩
   ·simp only [FT, IB, EvOk, E.b, E.i, E.v, Env.ext, evL]; rw [g3, min6 lW, hW0, wl, min6 hzl, hzl, hol]; omega
   ·simp only [Sub.ev, E.v, E.i, Env.ext, List.map_cons, List.map_nil, evL]
    rw [g3, min6 lW, hW0]
    exact q2
 have loop1 : ∀ (t i : Nat) (i' : Int) (o : V) (os : List (List Int)), t + i = rs.length → i' = i → Tab o os → os.length = i → (∀ r ∈ os, r.length ≤ 6) → ∃ q, (∃ A B a b, HMod G (F.sub 0 ((min f.length 6 : Nat) : Int)) A B (f.take (min f.length 6)) a b ∧ q = hm G (F.sub 0 ((min f.length 6 : Nat) : Int)) A B) ∧ Comes few17.K few17.f few17.s1 ⟨[i'], [], [hm G F S W, o]⟩ q := by
  intro t
  induction t with
  | zero =>
   intro i i' o os ht hi ho hl h6
   subst hi
   obtain ⟨q, q1, q2⟩ := loop2 o os ho (by omega) h6 rw_.length 0 0 .nil [] (by omega) rfl tab_nil rfl (by simp)
   refine ⟨q, q1, Comes.step progOk few17.p2 [] ?_ q2⟩
   simp only [FT, IB, EvOk, E.b, E.i, E.v, Env.ext, evL]; rw [g2, g3, min6 lS, min6 lW, hS0, sl, lW]; omega
  | succ t ih =>
   intro i i' o os ht hi ho hl h6
   subst hi
   obtain ⟨r, hr⟩ : ∃ r, rs[i]? = some r := ⟨_, List.getElem?_eq_getElem (by omega)⟩
   have hz := hS.row i r hr
   have hzl := hz.len
   have hol := ho.lenI
   obtain ⟨k1, k2⟩ := few_row (rr := rs) ho hz h6
   obtain ⟨q, q1, q2⟩ := ih (i + 1) ((i : Int) + 1) _ _ (by omega) (by omega) k1 (by simp [hl]) k2
   refine ⟨q, q1, Comes.step progOk few17.p1 [] ?_ ?_⟩
   ·simp only [FT, IB, EvOk, E.b, E.i, E.v, Env.ext, evL]; rw [g2, min6 lS, hS0, sl, min6 hzl, hzl, hol]; omega
   ·simp only [Sub.ev, E.v, E.i, Env.ext, List.map_cons, List.map_nil, evL]
    rw [g2, min6 lS, hS0]
    exact q2
 obtain ⟨q, ⟨A, B, a, b, M, rfl⟩, q2⟩ := loop1 rs.length 0 0 .nil [] (by omega) rfl tab_nil rfl (by simp)
 refine ⟨_, A, B, _, a, b, M, Fn.of (C := few17.K) few17.b (Comes.step progOk few17.p0 [] ?_ q2)⟩
 simp only [FT, IB, EvOk, E.b, E.i, E.v, Env.ext, evL]; rw [g1, g2, min6 lF, min6 lS, lF, lS]; omega
structure Bd (B : V) (u j a : Nat) (N : Int) : Prop where
 eq : B = .list [.int u, .int j, .int a, .int N]
 u : u ≤ 255
 j : j ≤ 255
 a : a ≤ 255
 n1 : -9223372036854775808 ≤ N
 n2 : N ≤ 9223372036854775807
theorem chains_spec {D : V} {g n k : Nat} {l e : List Nat} {L S : V} (X : Dr D g n k l e L S) {B : V} {u j a : Nat} {N : Int} (Y : Bd B u j a N) {G : Int} {F S3 W : V} {f : List Int} {s w : List (List Int)} (h1 : Zs F f) (h2 : Tab S3 s) (h3 : Tab W w) :
  ∃ x0 x1 x2, (∀ x ∈ [x0, x1, x2], ∃ G F S W f s w, HMod G F S W f s w ∧ x = hm G F S W) ∧ Fn prog chains.f [D, B, hm G F S3 W] (.list [x0, x1, x2]) := by
 obtain ⟨F0, S0, W0, f0, s0, w0, H, z1, z2, z3, c0⟩ := DraftHidden_spec X
 obtain ⟨G1, F1, S1, W1, f1, s1, w1, M1, c1⟩ := BendOf17_spec H z1 z2 z3 Y.u Y.j Y.a Y.n1 Y.n2
 obtain ⟨F2, S2, W2, f2, s2, w2, M2, c2⟩ := few17_spec (G := G) h1 h2 h3
 refine ⟨hm ((1 + g % 12 : Nat) : Int) F0 S0 W0, hm G1 F1 S1 W1, hm G F2 S2 W2, ?_, Fn.of (C := chains.K) chains.b (Comes.last progOk chains.p0 [hm ((1 + g % 12 : Nat) : Int) F0 S0 W0, hm G1 F1 S1 W1, hm G F2 S2 W2] ?_ ?_)⟩
 rotate_left
 ·have hD := X.eq
  have hB := Y.eq
  subst hD; subst hB
  exact ⟨c0, c1, c2, trivial⟩
 ·rfl
 ·intro x hx
  simp only [List.mem_cons, List.not_mem_nil, or_false] at hx
  rcases hx with rfl | rfl | rfl
  ·exact ⟨_, _, _, _, _, _, _, H.mod z1 z2 z3, rfl⟩
  ·exact ⟨_, _, _, _, _, _, _, M1, rfl⟩
  ·exact ⟨_, _, _, _, _, _, _, M2, rfl⟩
end X
namespace X
open Go Go.Abs Go.Sym
theorem drop_cons' {α : Type} {l : List α} {i : Nat} {r : α} (hr : l[i]? = some r) : l.drop i = r :: l.drop (i + 1) := by
 have hlt := (List.getElem?_eq_some_iff.1 hr).1
 rw [List.drop_eq_getElem_cons hlt]
 rw [List.getElem?_eq_getElem hlt] at hr
 cases hr; rfl
theorem rRight_spec {G : Int} {F S W : V} {f : List Int} {s w : List (List Int)} (M : HMod G F S W f s w) : Fn prog rRight.f [hm G F S W] (.bool (okH G f s w)) := by
 have m0 : ((hm G F S W).get 0).toI = G := rfl
 have m1 : (hm G F S W).get 1 = F := rfl
 have m2 : (hm G F S W).get 2 = S := rfl
 have m3 : (hm G F S W).get 3 = W := rfl
 have lf := M.first.len
 have ls := M.step.lenI
 have lw := M.shw.lenI
 have h1 := M.f6
 have h2 := M.s6
 have h3 := M.w6
 refine Fn.of (C := rRight.K) rRight.b ?_
 by_cases c : 1 ≤ G ∧ G ≤ 12 ∧ 1 ≤ f.length ∧ f.length ≤ 4
 rotate_left
 ·have e : okH G f s w = false := by
   unfold okH
   rw [decide_eq_false (fun q => c ⟨q.1, q.2.1, q.2.2.1, q.2.2.2.1⟩), Bool.false_and]
  rw [e]
  by_cases a0 : G < 1
  ·refine Comes.last progOk rRight.p0 [] ?_ rfl
   simp only [FT, IB, EvOk, E.b, E.i, E.v, Env.ext, evL]; rw [m0]; omega
  by_cases a1 : 12 < G
  ·refine Comes.last progOk rRight.p1 [] ?_ rfl
   simp only [FT, IB, EvOk, E.b, E.i, E.v, Env.ext, evL]; rw [m0]; omega
  by_cases a2 : f.length < 1
  ·refine Comes.last progOk rRight.p2 [] ?_ rfl
   simp only [FT, IB, EvOk, E.b, E.i, E.v, Env.ext, evL]; rw [m0, m1, lf]; omega
  ·refine Comes.last progOk rRight.p3 [] ?_ rfl
   simp only [FT, IB, EvOk, E.b, E.i, E.v, Env.ext, evL]; rw [m0, m1, lf]; omega
 obtain ⟨c1, c2, c3, c4⟩ := c
 have f1 := rrow_spec M.first (by omega) (G := G) f.length (by omega) c2
 cases hb1 : rowB G f.length f with
 | false =>
  rw [hb1] at f1
  have e : okH G f s w = false := by unfold okH; rw [hb1]; simp
  rw [e]
  refine Comes.last progOk rRight.p4 [.bool false] ?_ rfl
  simp only [FT, IB, EvOk, E.b, E.i, E.v, Env.ext, evL]; rw [m0, m1, lf]
  exact ⟨by omega, by omega, by omega, by omega, f1⟩
 | true =>
  rw [hb1] at f1
  by_cases c5 : s.length = f.length
  rotate_left
  ·have e : okH G f s w = false := by
    unfold okH
    rw [show decide ((s.length : Int) = f.length) = false from decide_eq_false (by omega)]; simp
   rw [e]
   refine Comes.last progOk rRight.p5 [.bool true] ?_ rfl
   simp only [FT, IB, EvOk, E.b, E.i, E.v, Env.ext, evL]; rw [m0, m1, m2, lf, ls]
   exact ⟨by omega, by omega, by omega, by omega, f1, by omega⟩
  by_cases c6 : w.length = f.length
  rotate_left
  ·have e : okH G f s w = false := by
    unfold okH
    rw [show decide ((w.length : Int) = f.length) = false from decide_eq_false (by omega)]; simp
   rw [e]
   refine Comes.last progOk rRight.p6 [.bool true] ?_ rfl
   simp only [FT, IB, EvOk, E.b, E.i, E.v, Env.ext, evL]; rw [m0, m1, m2, m3, lf, ls, lw]
   exact ⟨by omega, by omega, by omega, by omega, f1, by omega, by omega⟩
  have hw0 := hd_len M.shw (by omega)
  by_cases k1 : 1 ≤ hdl w
  rotate_left
  ·have e : okH G f s w = false := by
    unfold okH
    rw [decide_eq_false (fun q => k1 q.2.2.2.2.2.1), Bool.false_and]
   rw [e]
   refine Comes.last progOk rRight.p7 [.bool true] ?_ rfl
   simp only [FT, IB, EvOk, E.b, E.i, E.v, Env.ext, evL]; rw [m0, m1, m2, m3, lf, ls, lw, hw0]
   exact ⟨by omega, by omega, by omega, by omega, f1, by omega, by omega, by omega, by omega⟩
  by_cases k2 : hdl w ≤ 4
  rotate_left
  ·have e : okH G f s w = false := by
    unfold okH
    rw [decide_eq_false (fun q => k2 q.2.2.2.2.2.2), Bool.false_and]
   rw [e]
   refine Comes.last progOk rRight.p8 [.bool true] ?_ rfl
   simp only [FT, IB, EvOk, E.b, E.i, E.v, Env.ext, evL]; rw [m0, m1, m2, m3, lf, ls, lw, hw0]
   exact ⟨by omega, by omega, by omega, by omega, f1, by omega, by omega, by omega, by omega, by omega⟩
  have e : okH G f s w = ((s.drop 0).all (rowB G f.length) && (w.drop 0).all (rowB G (hdl w))) := by
   unfold okH rowsB
   rw [decide_eq_true ⟨c1, c2, c3, c4, c6, k1, k2⟩, hb1, show decide ((s.length : Int) = f.length) = true from decide_eq_true (by omega), show decide ((w.length : Int) = f.length) = true from decide_eq_true (by omega)]
   simp
  rw [e]
  have loop : ∀ (t i : Nat) (i' : Int), t + i = f.length → i' = i → Comes rRight.K rRight.f rRight.s1 ⟨[i'], [], [hm G F S W, .bool true]⟩ (.bool ((s.drop i).all (rowB G f.length) && (w.drop i).all (rowB G (hdl w)))) := by
   intro t
   induction t with
   | zero =>
    intro i i' ht hi
    subst hi
    rw [List.drop_eq_nil_of_le (by omega), List.drop_eq_nil_of_le (by omega)]
    refine Comes.last progOk rRight.p13 [] ?_ rfl
    simp only [FT, IB, EvOk, E.b, E.i, E.v, Env.ext, evL]; rw [m1, lf]; omega
   | succ t ih =>
    intro i i' ht hi
    subst hi
    obtain ⟨r, hr⟩ : ∃ e', s[i]? = some e' := ⟨_, List.getElem?_eq_getElem (by omega)⟩
    obtain ⟨q, hq⟩ : ∃ e', w[i]? = some e' := ⟨_, List.getElem?_eq_getElem (by omega)⟩
    have f2 := rrow_spec (M.step.row i r hr) (by have := M.sr r (List.mem_of_getElem? hr); omega) (G := G) f.length (by omega) c2
    have f3 := rrow_spec (M.shw.row i q hq) (by have := M.wr q (List.mem_of_getElem? hq); omega) (G := G) (hdl w) (by omega) c2
    rw [drop_cons' hr, drop_cons' hq]
    simp only [List.all_cons]
    cases h2 : rowB G f.length r with
    | false =>
     rw [h2] at f2
     refine Comes.last progOk rRight.p10 [.bool false] ?_ (by simp [E.v, E.b])
     simp only [FT, IB, EvOk, E.b, E.i, E.v, Env.ext, evL]; rw [m0, m1, m2, lf, ls]
     exact ⟨by omega, by omega, f2⟩
    | true =>
     rw [h2] at f2
     cases h3 : rowB G (hdl w) q with
     | false =>
      rw [h3] at f3
      refine Comes.last progOk rRight.p11 [.bool true, .bool false] ?_ (by simp [E.v, E.b])
      simp only [FT, IB, EvOk, E.b, E.i, E.v, Env.ext, evL]; rw [m0, m1, m2, m3, lf, ls, lw, hw0]
      exact ⟨by omega, by omega, f2, by omega, f3⟩
     | true =>
      rw [h3] at f3
      simp only [Bool.true_and]
      refine Comes.step progOk rRight.p12 [.bool true, .bool true] ?_ (ih (i + 1) ((i : Int) + 1) (by omega) (by omega))
      simp only [FT, IB, EvOk, E.b, E.i, E.v, Env.ext, evL]; rw [m0, m1, m2, m3, lf, ls, lw, hw0]
      exact ⟨by omega, by omega, f2, by omega, f3, by omega⟩
  refine Comes.step progOk rRight.p9 [.bool true] ?_ (loop f.length 0 0 (by omega) rfl)
  simp only [FT, IB, EvOk, E.b, E.i, E.v, Env.ext, evL]; rw [m0, m1, m2, m3, lf, ls, lw, hw0]
  exact ⟨by omega, by omega, by omega, by omega, f1, by omega, by omega, by omega, by omega, by omega⟩
theorem hCheck_spec {G : Int} {F S W : V} {f : List Int} {s w : List (List Int)} (M : HMod G F S W f s w) : Fn prog hCheck.f [hm G F S W] (.int (if okH G f s w then 0 else 170)) := by
 have f1 := hvalid_spec M
 refine Fn.of (C := hCheck.K) hCheck.b ?_
 cases h : okH G f s w with
 | false =>
  rw [h] at f1
  refine Comes.last progOk hCheck.p0 [.bool false] ?_ rfl
  simp only [FT, IB, EvOk, E.b, E.i, E.v, Env.ext, evL]; exact f1
 | true =>
  rw [h] at f1
  refine Comes.last progOk hCheck.p1 [.bool true] ?_ rfl
  simp only [FT, IB, EvOk, E.b, E.i, E.v, Env.ext, evL]; exact f1
theorem same02_spec {x y : V} {l : List Int} (hx : Zs x l) (hy : Zs y l) (hl : l.length ≤ 1000) : Fn prog ref02_Same.f [x, y] (.bool true) := by
 have xl := hx.len
 have yl := hy.len
 have loop : ∀ (t i : Nat) (i' : Int), t + i = l.length → i' = i → Comes ref02_Same.K ref02_Same.f ref02_Same.s1 ⟨[i'], [], [x, y]⟩ (.bool true) := by
  intro t
  induction t with
  | zero =>
   intro i i' ht hi
   subst hi
   refine Comes.last progOk ref02_Same.p4 [] ?_ rfl
   simp only [FT, IB, EvOk, E.b, E.i, E.v, Env.ext, evL]; rw [xl]; omega
  | succ t ih =>
   intro i i' ht hi
   subst hi
   obtain ⟨d, hd⟩ : ∃ e', l[i]? = some e' := ⟨_, List.getElem?_eq_getElem (by omega)⟩
   refine Comes.step progOk ref02_Same.p3 [] ?_ (ih (i + 1) ((i : Int) + 1) (by omega) (by omega))
   simp only [FT, IB, EvOk, E.b, E.i, E.v, Env.ext, evL]; rw [xl, yl, hx.get hd, hy.get hd]; omega
 refine Fn.of (C := ref02_Same.K) ref02_Same.b (Comes.step progOk ref02_Same.p1 [] ?_ (loop l.length 0 0 (by omega) rfl))
 simp only [FT, IB, EvOk, E.b, E.i, E.v, Env.ext, evL]; rw [xl, yl]
theorem SameTable_spec {A B : V} {rows : List (List Int)} (hA : Tab A rows) (hB : Tab B rows) (hl : rows.length ≤ 1000) (h6 : ∀ r ∈ rows, r.length ≤ 1000) : Fn prog SameTable.f [A, B] (.bool true) := by
 have xl := hA.lenI
 have yl := hB.lenI
 have loop : ∀ (t i : Nat) (i' : Int), t + i = rows.length → i' = i → Comes SameTable.K SameTable.f SameTable.s1 ⟨[i'], [], [A, B]⟩ (.bool true) := by
  intro t
  induction t with
  | zero =>
   intro i i' ht hi
   subst hi
   refine Comes.last progOk SameTable.p4 [] ?_ rfl
   simp only [FT, IB, EvOk, E.b, E.i, E.v, Env.ext, evL]; rw [xl]; omega
  | succ t ih =>
   intro i i' ht hi
   subst hi
   obtain ⟨d, hd⟩ : ∃ e', rows[i]? = some e' := ⟨_, List.getElem?_eq_getElem (by omega)⟩
   have f1 := same02_spec (hA.row i d hd) (hB.row i d hd) (h6 d (List.mem_of_getElem? hd))
   refine Comes.step progOk SameTable.p3 [.bool true] ?_ (ih (i + 1) ((i : Int) + 1) (by omega) (by omega))
   simp only [FT, IB, EvOk, E.b, E.i, E.v, Env.ext, evL]; rw [xl, yl]; exact ⟨by omega, by omega, by omega, f1, by omega⟩
 refine Fn.of (C := SameTable.K) SameTable.b (Comes.step progOk SameTable.p1 [] ?_ (loop rows.length 0 0 (by omega) rfl))
 simp only [FT, IB, EvOk, E.b, E.i, E.v, Env.ext, evL]; rw [xl, yl]
end X
namespace X
open Go Go.Abs Go.Sym
def cardF (f : List Int) (w : List (List Int)) (j : Nat) : Int := if j % 2 = 0 then f.length else hdl w
def parF (j : Nat) : List Int := if j % 2 = 0 then (if j = 0 then [] else [(j : Int) - 2]) else [(j : Int) - 1]
def rowF (f : List Int) (s w : List (List Int)) (j : Nat) : List (List Int) := if j % 2 = 0 then (if j = 0 then [f] else s) else w
structure NodeR (f : List Int) (s w : List (List Int)) (j : Nat) (x : V) : Prop where
 card : (x.get 0).toI = cardF f w j
 par : Zs (x.get 1) (parF j)
 row : Tab (x.get 2) (rowF f s w j)
structure NetR (f : List Int) (s w : List (List Int)) (i : Nat) (x : V) : Prop where
 len : x.els.length = 2 * i
 at_ : ∀ j y, x.els[j]? = some y → NodeR f s w j y
theorem tab1 {F : V} {f : List Int} (h : Zs F f) : Tab (.list [F]) [f] := tab_iff.2 ⟨h, trivial⟩
theorem NetR.lenI {f : List Int} {s w : List (List Int)} {i : Nat} {x : V} (h : NetR f s w i x) : x.len = 2 * (i : Int) := by simp [V.len, h.len]
def net0 (e : Int) : V := .list [.list [.int 0, .nil], .int e]
def netV (G : Int) (x : V) : V := .list [.list [.int G, x], .int 0]
end X
namespace Go.Sym
open Go Go.Abs
theorem WT.struct {P : Program} {d : Nat} {t : TypeId} {x : V} {fields : Array Field} (hu : P.underlying t = some (.struct fields)) (h : WT P (d + 1) t x) : ∃ xs, x = .list xs ∧ xs.length = fields.toList.length ∧ ∀ (i : Nat) f y, fields.toList[i]? = some f → xs[i]? = some y → WT P d f.type y := by
 unfold WT at h; rw [hu] at h; exact h
theorem WT.intv {P : Program} {d : Nat} {t : TypeId} {x : V} {k : IntKind} (hu : P.underlying t = some (.int k)) (h : WT P (d + 1) t x) : ∃ n, x = .int n ∧ k.min ≤ n ∧ n ≤ k.max := by
 unfold WT at h; rw [hu] at h; exact h
theorem WT.slice {P : Program} {d : Nat} {t et : TypeId} {x : V} (hu : P.underlying t = some (.slice et)) (h : WT P (d + 1) t x) : x = .nil ∨ ∃ l, x = .list l ∧ l.length ≤ Go.maxLen ∧ ∀ y ∈ l, WT P d et y := by
 unfold WT at h; rw [hu] at h; exact h
end Go.Sym
namespace Go.Proofs.YtildjgdhdcoojaaDoor.Par
open Go.Sym (WT WTs V Ints)
open X (Zs Tab TabL hm Dr Bd)
set_option maxRecDepth 100000 in
theorem ints_of {d : Nat} {x : V} (h : WT Tryd.prog (d + 2) 22 x) : ∃ l : List Nat, Ints x l ∧ (∀ y ∈ l, y ≤ 255) ∧ l.length ≤ Go.maxLen := by
 rcases WT.slice Tryd.underlying22 h with rfl | ⟨l, rfl, hl, hy⟩
 ·exact ⟨[], rfl, by simp, by simp⟩
 ·clear h
  induction l with
  | nil => exact ⟨[], rfl, by simp, by simp⟩
  | cons a l ih =>
   obtain ⟨k, k1, k2, k3⟩ := ih (by simp at hl; omega) (fun y hm => hy y (by simp [hm]))
   obtain ⟨n, rfl, h1, h2⟩ := WT.intv Tryd.underlying5 (hy a (by simp))
   have h1' : (0 : Int) ≤ n := h1
   have h2' : n ≤ 255 := h2
   obtain ⟨m, rfl⟩ : ∃ m : Nat, n = m := ⟨n.toNat, by omega⟩
   refine ⟨m :: k, ?_, ?_, ?_⟩
   ·unfold Ints at *
    simp only [V.els, List.map_cons] at *
    rw [k1]; rfl
   ·intro y hy'
    rcases List.mem_cons.1 hy' with rfl | q
    ·omega
    ·exact k2 y q
   ·have : l.length = k.length := by
     unfold Ints at k1
     simp only [V.els] at k1
     rw [k1]; simp
    simp only [List.length_cons] at *
    omega
set_option maxRecDepth 100000 in
theorem zs_of {d : Nat} {x : V} (h : WT Tryd.prog (d + 2) 27 x) : ∃ l : List Int, Zs x l := by
 rcases WT.slice Tryd.underlying27 h with rfl | ⟨l, rfl, hl, hy⟩
 ·exact ⟨[], rfl⟩
 ·clear h
  induction l with
  | nil => exact ⟨[], rfl⟩
  | cons a l ih =>
   obtain ⟨k, k1⟩ := ih (by simp at hl; omega) (fun y hm => hy y (by simp [hm]))
   obtain ⟨n, rfl, h1, h2⟩ := WT.intv Tryd.underlying3 (hy a (by simp))
   refine ⟨n :: k, ?_⟩
   unfold Zs at *
   simp only [V.els, List.map_cons] at *
   rw [k1]
set_option maxRecDepth 100000 in
theorem tab_of {d : Nat} {x : V} (h : WT Tryd.prog (d + 3) 28 x) : ∃ rows, Tab x rows := by
 rcases WT.slice Tryd.underlying28 h with rfl | ⟨l, rfl, hl, hy⟩
 ·exact ⟨[], X.tab_nil⟩
 ·clear h
  suffices hh : ∃ rows, TabL l rows by
   obtain ⟨rows, hr⟩ := hh
   exact ⟨rows, X.tab_iff.2 hr⟩
  induction l with
  | nil => exact ⟨[], trivial⟩
  | cons a l ih =>
   obtain ⟨rows, k1⟩ := ih (by simp at hl; omega) (fun y hm => hy y (by simp [hm]))
   obtain ⟨r, hr⟩ := zs_of (hy a (by simp))
   exact ⟨r :: rows, hr, k1⟩
set_option maxRecDepth 100000 in
theorem draft_of {d : Nat} {x : V} (h : WT Tryd.prog (d + 4) 24 x) : ∃ (g n k : Nat) (l e : List Nat) (L S : V), Dr x g n k l e L S := by
 obtain ⟨xs, rfl, l0, f0⟩ := WT.struct Tryd.underlying24 h
 match xs, l0 with
 | [a, b, c, L, S], _ =>
 obtain ⟨a, rfl, a1, a2⟩ := WT.intv Tryd.underlying5 (f0 0 _ _ rfl rfl)
 obtain ⟨b, rfl, b1, b2⟩ := WT.intv Tryd.underlying5 (f0 1 _ _ rfl rfl)
 obtain ⟨c, rfl, c1, c2⟩ := WT.intv Tryd.underlying5 (f0 2 _ _ rfl rfl)
 obtain ⟨l, i1, i2, i3⟩ := ints_of (f0 3 _ _ rfl rfl)
 obtain ⟨e, j1, j2, j3⟩ := ints_of (f0 4 _ _ rfl rfl)
 have a1 : (0 : Int) ≤ a := a1
 have a2 : a ≤ 255 := a2
 have b1 : (0 : Int) ≤ b := b1
 have b2 : b ≤ 255 := b2
 have c1 : (0 : Int) ≤ c := c1
 have c2 : c ≤ 255 := c2
 obtain ⟨a, rfl⟩ : ∃ m : Nat, a = m := ⟨a.toNat, by omega⟩
 obtain ⟨b, rfl⟩ : ∃ m : Nat, b = m := ⟨b.toNat, by omega⟩
 obtain ⟨c, rfl⟩ : ∃ m : Nat, c = m := ⟨c.toNat, by omega⟩
 have hm : Go.maxLen ≤ 9223372036854775807 := by decide
 exact ⟨a, b, c, l, e, L, S, rfl, by omega, by omega, by omega, i1, j1, i2, j2, by omega, by omega⟩
set_option maxRecDepth 100000 in
theorem bend_of {d : Nat} {x : V} (h : WT Tryd.prog (d + 4) 26 x) : ∃ (u j a : Nat) (N : Int), Bd x u j a N := by
 obtain ⟨xs, rfl, l0, f0⟩ := WT.struct Tryd.underlying26 h
 match xs, l0 with
 | [a, b, c, N], _ =>
 obtain ⟨a, rfl, a1, a2⟩ := WT.intv Tryd.underlying5 (f0 0 _ _ rfl rfl)
 obtain ⟨b, rfl, b1, b2⟩ := WT.intv Tryd.underlying5 (f0 1 _ _ rfl rfl)
 obtain ⟨c, rfl, c1, c2⟩ := WT.intv Tryd.underlying5 (f0 2 _ _ rfl rfl)
 obtain ⟨N, rfl, d1, d2⟩ := WT.intv Tryd.underlying3 (f0 3 _ _ rfl rfl)
 have a1 : (0 : Int) ≤ a := a1
 have a2 : a ≤ 255 := a2
 have b1 : (0 : Int) ≤ b := b1
 have b2 : b ≤ 255 := b2
 have c1 : (0 : Int) ≤ c := c1
 have c2 : c ≤ 255 := c2
 obtain ⟨a, rfl⟩ : ∃ m : Nat, a = m := ⟨a.toNat, by omega⟩
 obtain ⟨b, rfl⟩ : ∃ m : Nat, b = m := ⟨b.toNat, by omega⟩
 obtain ⟨c, rfl⟩ : ∃ m : Nat, c = m := ⟨c.toNat, by omega⟩
 exact ⟨a, b, c, N, rfl, by omega, by omega, by omega, d1, d2⟩
set_option maxRecDepth 100000 in
theorem hid_of {d : Nat} {x : V} (h : WT Tryd.prog (d + 4) 30 x) : ∃ (G : Int) (F S W : V) (f : List Int) (s w : List (List Int)), x = hm G F S W ∧ Zs F f ∧ Tab S s ∧ Tab W w := by
 obtain ⟨xs, rfl, l0, f0⟩ := WT.struct Tryd.underlying30 h
 match xs, l0 with
 | [a, b, c, e], _ =>
 obtain ⟨a, rfl, a1, a2⟩ := WT.intv Tryd.underlying3 (f0 0 _ _ rfl rfl)
 obtain ⟨f, hf⟩ := zs_of (f0 1 _ _ rfl rfl)
 obtain ⟨s, hs⟩ := tab_of (f0 2 _ _ rfl rfl)
 obtain ⟨w, hw⟩ := tab_of (f0 3 _ _ rfl rfl)
 exact ⟨a, b, c, e, f, s, w, rfl, hf, hs, hw⟩
end Go.Proofs.YtildjgdhdcoojaaDoor.Par
