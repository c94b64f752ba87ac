/- Texts of the claim: P_rForward, P_rBackward, P_watch, P_hshows, P_forward, P_hForward, P_hBackward, P_htotal, P_hlast, P_possible, P_hProb, P_hFilter, P_hSmooth, P_hPredict, P_rTotal, P_rShared, P_rAll, P_rProb, P_rFilter, P_rSmooth, P_rPredict, P_SameTable, P_SameQ, P_SameQs, P_HiddenPredicts, Paths, SymClosed, AbsPost, SymLaw, Big, T1, Num1, Num2, Num3, Num4, Num5, Num6, QNum, Tabs, Hid1, Hid2, Hid3, Hid4. -/
import Derived.Test.YtildjgdhdcoojaaDoorZ10
import Derived.Test.YtildjgdhdcoojaaDoorZ07
import Derived.ChangeSame
import Derived.RowKit3
import Derived.Carry
set_option linter.unusedVariables false
set_option linter.unusedSimpArgs false
namespace X
open Go Go.Abs Go.Sym
namespace rForward
abbrev f : Nat := 19
noncomputable def K : Cfg := ⟨prog, pl, [(19, 84), (19, 89), (19, 97)], [54, 55, 56, 53], [52]⟩
noncomputable def e0 : SV := .int .i64 (.toI (.get (.vv 0) (.il 0)))
noncomputable def s0 : SMach := ⟨⟨19, 121, (m (.agg [e0, (.pure 3 (.get (.vv 0) (.il 1)) (q 0 1)), (.pure 27 (.get (.vv 0) (.il 2)) (q 0 2)), (.pure 27 (.get (.vv 0) (.il 3)) (q 0 3))]) (l (.pure 3 (.vv 1) (q 1 0))) z z z), [.code (C 19 [])], [], .run, false, none⟩, [], ⟨0, 2, 2, z⟩⟩
noncomputable def s1 : SMach := ⟨⟨19, 121, (n (m (.pure 3 (.vv 1) (q 2 0)) (l (.view 1)) z z z) (m (.addr 0 0) (l (.int .i64 (.iv 0))) z z z) z z), [.code (C 19 [1, 1, 0, 1, 0, 0]), .inLoop (C 19 [1, 1, 0, 1, 0, 0]), .inBlock 0, .code (C 19 [1, 1, 1])], [], .run, false, none⟩, [], ⟨2, 6, 4, (m (.cells [e0, (.pure 3 (.get (.vv 0) (.il 1)) (q 3 0)), (.pure 27 (.get (.vv 0) (.il 2)) (q 4 0)), (.pure 27 (.get (.vv 0) (.il 3)) (q 5 0))]) (l (.tree 27 (.vv 3) none)) z z z)⟩⟩
noncomputable def s2 : SMach := ⟨⟨19, 121, (n (m (.pure 3 (.vv 1) (q 8 0)) (l (.view 1)) z z z) (m (.addr 0 0) (l (.int .i64 (.iv 1))) z z z) (n (l (.pure 27 (.vv 6) (q 12 0))) z z z) (n (l (.int .i64 (.iv 0))) z z z)), [.code (C 19 [1, 1, 0, 1, 0, 0, 1, 0, 0, 0, 1, 0, 1, 0, 1, 0, 0]), .inLoop (C 19 [1, 1, 0, 1, 0, 0, 1, 0, 0, 0, 1, 0, 1, 0, 1, 0, 0]), .inBlock 2, .code (.exit 1), .code (C 19 [1, 1, 0, 1, 0, 0, 1, 0, 0, 1]), .inBlock 1, .code (C 19 [1, 1, 0, 1, 0, 0, 1, 1]), .inLoop (C 19 [1, 1, 0, 1, 0, 0]), .inBlock 0, .code (C 19 [1, 1, 1])], [], .run, false, none⟩, [], ⟨2, 13, 7, (m (.cells [e0, (.pure 3 (.get (.vv 0) (.il 1)) (q 9 0)), (.pure 27 (.get (.vv 0) (.il 2)) (q 10 0)), (.pure 27 (.get (.vv 0) (.il 3)) (q 11 0))]) (l (.tree 27 (.vv 5) none)) z z z)⟩⟩
noncomputable def s3 : SMach := ⟨⟨19, 121, (n (m (.pure 3 (.vv 1) (q 7 0)) (l (.view 1)) z z z) (m (.addr 0 0) (l (.int .i64 (.iv 0))) (l (.int .i64 (.iv 1))) z z) z z), [.code (C 19 [1, 1, 0, 1, 0, 0, 1, 0, 0, 1, 1, 0, 0]), .inLoop (C 19 [1, 1, 0, 1, 0, 0, 1, 0, 0, 1, 1, 0, 0]), .inBlock 4, .inBlock 1, .code (C 19 [1, 1, 0, 1, 0, 0, 1, 1]), .inLoop (C 19 [1, 1, 0, 1, 0, 0]), .inBlock 0, .code (C 19 [1, 1, 1])], [], .run, false, none⟩, [], ⟨2, 11, 5, (m (.cells [e0, (.pure 3 (.get (.vv 0) (.il 1)) (q 8 0)), (.pure 27 (.get (.vv 0) (.il 2)) (q 9 0)), (.pure 27 (.get (.vv 0) (.il 3)) (q 10 0))]) (l (.tree 27 (.vv 4) none)) z z z)⟩⟩
noncomputable def s4 : SMach := ⟨⟨19, 121, (n (m (.pure 3 (.vv 1) (q 11 0)) (l (.view 1)) z z z) (m (.addr 0 0) (l (.int .i64 (.iv 1))) (l (.int .i64 (.iv 2))) z z) (n z (l (.int .i64 (.iv 0))) z z) z), [.code (C 19 [1, 1, 0, 1, 0, 0, 1, 0, 0, 1, 1, 0, 0, 1, 0, 0, 1, 0, 0]), .inLoop (C 19 [1, 1, 0, 1, 0, 0, 1, 0, 0, 1, 1, 0, 0, 1, 0, 0, 1, 0, 0]), .inBlock 6, .inBlock 5, .code (C 19 [1, 1, 0, 1, 0, 0, 1, 0, 0, 1, 1, 0, 0, 1, 1]), .inLoop (C 19 [1, 1, 0, 1, 0, 0, 1, 0, 0, 1, 1, 0, 0]), .inBlock 4, .inBlock 1, .code (C 19 [1, 1, 0, 1, 0, 0, 1, 1]), .inLoop (C 19 [1, 1, 0, 1, 0, 0]), .inBlock 0, .code (C 19 [1, 1, 1])], [], .run, false, none⟩, [], ⟨2, 15, 5, (m (.cells [e0, (.pure 3 (.get (.vv 0) (.il 1)) (q 12 0)), (.pure 27 (.get (.vv 0) (.il 2)) (q 13 0)), (.pure 27 (.get (.vv 0) (.il 3)) (q 14 0))]) (l (.tree 27 (.vv 4) none)) z z z)⟩⟩
theorem p0 : stretch K 20 [] s0 s1 [] ⟨[(.il 0)], [], [(.vv 0), (.vv 1), (.vv 2), (.vv 2)], [(q 0 0), (q 1 0), (q 1 0), (q 0 1), (q 0 2), (q 0 3)]⟩ [(0, (some 0)), (1, (some 1))] = some (s1, [.callO 52 [(HM (.vv 0)), (.ofI (.len (.vv 1)))]]) := by kernel_rfl
theorem p1 : stretch K 36 [true, true] s1 s2 [] ⟨[(.il 0), (.iv 0)], [], [(.vv 0), (.vv 1), (.vv 2), (.vv 3), (.vv 4), (.vv 3), (.vv 5)], (Z [0, 1, 2, 3, 4, 5, 6, 7, 2, 3, 4, 5, 7])⟩ [(0, (some 0)), (1, (some 1))] = some (s2, [.ask (.lt (.iv 0) (.len (.vv 1))), .ask (FT (.add (.iv 0) (.il 1))), .call 53 [(HM (.vv 0)), (.ofI (.add (.iv 0) (.il 1)))], .ask (.toB (.vv 4)), .ask (FT (.add (.iv 0) (.il 1))), .call 54 [(HM (.vv 0)), (.ofI (.add (.iv 0) (.il 1)))]]) := by kernel_rfl
theorem p2 : stretch K 28 [true, false] s1 s3 [] ⟨[(.iv 0), (.il 0)], [], [(.vv 0), (.vv 1), (.vv 2), (.vv 3), (.vv 3)], (Z [0, 1, 2, 3, 4, 5, 6, 2, 3, 4, 5])⟩ [(0, (some 0)), (1, (some 1))] = some (s3, [.ask (.lt (.iv 0) (.len (.vv 1))), .ask (FT (.add (.iv 0) (.il 1))), .call 53 [(HM (.vv 0)), (.ofI (.add (.iv 0) (.il 1)))], .ask (.not (.toB (.vv 4)))]) := by kernel_rfl
theorem p3 : last K 19 16 [false] s1 = some ((.vv 3), [.ask (.not (.lt (.iv 0) (.len (.vv 1))))]) := by kernel_rfl
theorem p4 : stretch K 57 [true] s2 s2 [] ⟨[(.add (.iv 0) (.il 1)), (.iv 1)], [], [(.vv 0), (.vv 1), (.vv 2), (.vv 3), (.vv 4), (.set (.vv 5) (.iv 1) (.set (.get (.vv 5) (.iv 1)) (.toI (.get (.get (.vv 6) (.iv 0)) (.iv 1))) (.ofI (.add (.toI (.get (.get (.vv 5) (.iv 1)) (.toI (.get (.get (.vv 6) (.iv 0)) (.iv 1))))) (.toI (.vv 7)))))), (.vv 6)], (Z [0, 1, 2, 3, 4, 5, 6, 7, 8, 9, 10, 11, 12])⟩ [(0, (some 0)), (1, (some 1))] = some (s2, [.ask (.lt (.iv 0) (.len (.vv 6))), .ask (IB (.iv 0) (.vv 6)), .ask (IB (.iv 1) (.get (.vv 6) (.iv 0))), .ask (IB (.iv 1) (.vv 5)), .ask (IB (.iv 1) (.vv 5)), .ask (IB (.iv 1) (.vv 5)), .ask (IB (.iv 1) (.vv 5)), .ask (IB (.iv 1) (.vv 5)), .ask (IB (.toI (.get (.get (.vv 6) (.iv 0)) (.iv 1))) (.get (.vv 5) (.iv 1))), .ask (IB (.toI (.get (.get (.vv 6) (.iv 0)) (.iv 1))) (.get (.vv 5) (.iv 1))), .ask (FT (.add (.iv 1) (.il 1))), .ask (.le (.il 0) (.add (.iv 1) (.il 1))), .ask (.le (.add (.iv 1) (.il 1)) (.len (.vv 1))), .ask (IB (.iv 0) (.vv 6)), .call 55 [(HM (.vv 0)), (.cut (.vv 1) (.il 0) (.add (.iv 1) (.il 1))), (.get (.vv 6) (.iv 0))], .ask (IB (.iv 1) (.vv 5)), .ask (IB (.iv 1) (.vv 5)), .ask (IB (.toI (.get (.get (.vv 6) (.iv 0)) (.iv 1))) (.get (.vv 5) (.iv 1))), .ask (FT (.add (.toI (.get (.get (.vv 5) (.iv 1)) (.toI (.get (.get (.vv 6) (.iv 0)) (.iv 1))))) (.toI (.vv 7)))), .ask (IB (.toI (.get (.get (.vv 6) (.iv 0)) (.iv 1))) (.get (.vv 5) (.iv 1))), .ask (IB (.toI (.get (.get (.vv 6) (.iv 0)) (.iv 1))) (.get (.vv 5) (.iv 1))), .ask (FT (.add (.iv 0) (.il 1)))]) := by kernel_rfl
theorem p5 : stretch K 17 [false] s2 s1 [] ⟨[(.add (.iv 1) (.il 1))], [], [(.vv 0), (.vv 1), (.vv 2), (.vv 5)], (Z [0, 1, 8, 9, 10, 11])⟩ [(0, (some 0)), (1, (some 1))] = some (s1, [.ask (.not (.lt (.iv 0) (.len (.vv 6)))), .ask (FT (.add (.iv 1) (.il 1)))]) := by kernel_rfl
theorem p6 : stretch K 19 [true] s3 s4 [] ⟨[(.il 0), (.iv 0), (.iv 1)], [], [(.vv 0), (.vv 1), (.vv 2), (.vv 3), (.vv 4)], (Z [0, 1, 2, 3, 4, 5, 6, 7, 8, 9, 10, 7, 8, 9, 10])⟩ [(0, (some 0)), (1, (some 1))] = some (s4, [.ask (.lt (.iv 1) (.len (.get (.vv 0) (.il 1))))]) := by kernel_rfl
theorem p7 : stretch K 18 [false] s3 s1 [] ⟨[(.add (.iv 0) (.il 1))], [], [(.vv 0), (.vv 1), (.vv 2), (.vv 4)], (Z [0, 1, 7, 8, 9, 10])⟩ [(0, (some 0)), (1, (some 1))] = some (s1, [.ask (.not (.lt (.iv 1) (.len (.get (.vv 0) (.il 1))))), .ask (FT (.add (.iv 0) (.il 1)))]) := by kernel_rfl
theorem p8 : stretch K 62 [true] s4 s4 [] ⟨[(.add (.iv 0) (.il 1)), (.iv 1), (.iv 2)], [], [(.vv 0), (.vv 1), (.vv 2), (.vv 3), (.set (.vv 4) (.iv 1) (.set (.get (.vv 4) (.iv 1)) (.iv 2) (.ofI (.add (.toI (.get (.get (.vv 4) (.iv 1)) (.iv 2))) (.mul (.mul (.toI (.get (.get (.vv 4) (.sub (.iv 1) (.il 1))) (.iv 0))) (.toI (.get (.get (.get (.vv 0) (.il 2)) (.iv 0)) (.iv 2)))) (.toI (.vv 5)))))))], (Z [0, 1, 2, 3, 4, 5, 6, 7, 8, 9, 10, 11, 12, 13, 14])⟩ [(0, (some 0)), (1, (some 1))] = some (s4, [.ask (.lt (.iv 0) (.len (.get (.vv 0) (.il 1)))), .ask (IB (.iv 1) (.vv 4)), .ask (IB (.iv 1) (.vv 4)), .ask (IB (.iv 1) (.vv 4)), .ask (IB (.iv 1) (.vv 4)), .ask (IB (.iv 1) (.vv 4)), .ask (IB (.iv 2) (.get (.vv 4) (.iv 1))), .ask (IB (.iv 2) (.get (.vv 4) (.iv 1))), .ask (FT (.sub (.iv 1) (.il 1))), .ask (IB (.sub (.iv 1) (.il 1)) (.vv 4)), .ask (.not (.eq (.sub (.iv 1) (.il 1)) (.iv 1))), .ask (IB (.sub (.iv 1) (.il 1)) (.vv 4)), .ask (IB (.sub (.iv 1) (.il 1)) (.vv 4)), .ask (IB (.iv 0) (.get (.vv 4) (.sub (.iv 1) (.il 1)))), .ask (IB (.iv 0) (.get (.vv 4) (.sub (.iv 1) (.il 1)))), .ask (IB (.iv 0) (.get (.vv 0) (.il 2))), .ask (IB (.iv 2) (.get (.get (.vv 0) (.il 2)) (.iv 0))), .ask (FT (.mul (.toI (.get (.get (.vv 4) (.sub (.iv 1) (.il 1))) (.iv 0))) (.toI (.get (.get (.get (.vv 0) (.il 2)) (.iv 0)) (.iv 2))))), .ask (IB (.iv 1) (.vv 1)), .call 56 [(HM (.vv 0)), (.ofI (.iv 2)), (.ofI (.toI (.get (.vv 1) (.iv 1))))], .ask (IB (.iv 1) (.vv 4)), .ask (IB (.iv 1) (.vv 4)), .ask (IB (.iv 2) (.get (.vv 4) (.iv 1))), .ask (IB (.sub (.iv 1) (.il 1)) (.vv 4)), .ask (IB (.iv 0) (.get (.vv 4) (.sub (.iv 1) (.il 1)))), .ask (FT (.mul (.mul (.toI (.get (.get (.vv 4) (.sub (.iv 1) (.il 1))) (.iv 0))) (.toI (.get (.get (.get (.vv 0) (.il 2)) (.iv 0)) (.iv 2)))) (.toI (.vv 5)))), .ask (FT (.add (.toI (.get (.get (.vv 4) (.iv 1)) (.iv 2))) (.mul (.mul (.toI (.get (.get (.vv 4) (.sub (.iv 1) (.il 1))) (.iv 0))) (.toI (.get (.get (.get (.vv 0) (.il 2)) (.iv 0)) (.iv 2)))) (.toI (.vv 5))))), .ask (IB (.iv 2) (.get (.vv 4) (.iv 1))), .ask (IB (.iv 2) (.get (.vv 4) (.iv 1))), .ask (FT (.add (.iv 0) (.il 1)))]) := by kernel_rfl
theorem p9 : stretch K 18 [false] s4 s3 [] ⟨[(.iv 1), (.add (.iv 2) (.il 1))], [], [(.vv 0), (.vv 1), (.vv 2), (.vv 3), (.vv 4)], (Z [0, 1, 2, 3, 4, 5, 6, 11, 12, 13, 14])⟩ [(0, (some 0)), (1, (some 1))] = some (s3, [.ask (.not (.lt (.iv 0) (.len (.get (.vv 0) (.il 1))))), .ask (FT (.add (.iv 2) (.il 1)))]) := by kernel_rfl
theorem b : sbegin prog 19 = some s0 := by kernel_rfl
end rForward
end X
namespace X
open Go Go.Abs Go.Sym
namespace rBackward
abbrev f : Nat := 20
noncomputable def K : Cfg := ⟨prog, pl, [(20, 50), (20, 55), (20, 80)], [54, 56, 53], [52]⟩
noncomputable def e0 : SV := .int .i64 (.toI (.get (.vv 0) (.il 0)))
noncomputable def e1 : SV := .int .i64 (.len (.vv 1))
noncomputable def s0 : SMach := ⟨⟨20, 165, (m (.agg [e0, (.pure 3 (.get (.vv 0) (.il 1)) (q 0 1)), (.pure 27 (.get (.vv 0) (.il 2)) (q 0 2)), (.pure 27 (.get (.vv 0) (.il 3)) (q 0 3))]) (l (.pure 3 (.vv 1) (q 1 0))) z z z), [.code (C 20 [])], [], .run, false, none⟩, [], ⟨0, 2, 2, z⟩⟩
noncomputable def s1 : SMach := ⟨⟨20, 165, (n (m (.pure 3 (.vv 1) (q 2 0)) (l e1) z z z) (m (.addr 0 0) (l (.view 1)) z z z) (n (l (.int .i64 (.iv 0))) z z z) z), [.code (C 20 [1, 1, 1, 0, 1, 0, 0]), .inLoop (C 20 [1, 1, 1, 0, 1, 0, 0]), .inBlock 0, .code (C 20 [1, 1, 1, 1])], [], .run, false, none⟩, [], ⟨2, 6, 4, (m (.cells [e0, (.pure 3 (.get (.vv 0) (.il 1)) (q 3 0)), (.pure 27 (.get (.vv 0) (.il 2)) (q 4 0)), (.pure 27 (.get (.vv 0) (.il 3)) (q 5 0))]) (l (.tree 27 (.vv 3) none)) z z z)⟩⟩
noncomputable def s2 : SMach := ⟨⟨20, 165, (n (m (.pure 3 (.vv 1) (q 6 0)) (l e1) z z z) (m (.addr 0 0) (l (.view 1)) z z z) (n (l (.int .i64 (.iv 1))) z z z) (n (l (.int .i64 (.iv 0))) z z z)), [.code (C 20 [1, 1, 1, 0, 1, 0, 0, 1, 0, 0, 1, 0, 0]), .inLoop (C 20 [1, 1, 1, 0, 1, 0, 0, 1, 0, 0, 1, 0, 0]), .inBlock 2, .inBlock 1, .code (C 20 [1, 1, 1, 0, 1, 0, 0, 1, 1]), .inLoop (C 20 [1, 1, 1, 0, 1, 0, 0]), .inBlock 0, .code (C 20 [1, 1, 1, 1])], [], .run, false, none⟩, [], ⟨2, 10, 4, (m (.cells [e0, (.pure 3 (.get (.vv 0) (.il 1)) (q 7 0)), (.pure 27 (.get (.vv 0) (.il 2)) (q 8 0)), (.pure 27 (.get (.vv 0) (.il 3)) (q 9 0))]) (l (.tree 27 (.vv 3) none)) z z z)⟩⟩
noncomputable def s3 : SMach := ⟨⟨20, 165, (n (m (.pure 3 (.vv 1) (q 11 0)) (l e1) (l (.int .i64 (.iv 0))) z z) (m (.addr 0 0) (l (.view 1)) z z z) (n (l (.int .i64 (.iv 1))) z z z) (n (l (.int .i64 (.iv 2))) z z z)), [.code (C 20 [1, 1, 1, 0, 1, 0, 0, 1, 0, 0, 1, 0, 0, 1, 0, 0, 0, 1, 0, 0, 1, 0, 0]), .inLoop (C 20 [1, 1, 1, 0, 1, 0, 0, 1, 0, 0, 1, 0, 0, 1, 0, 0, 0, 1, 0, 0, 1, 0, 0]), .inBlock 4, .code (.exit 3), .code (C 20 [1, 1, 1, 0, 1, 0, 0, 1, 0, 0, 1, 0, 0, 1, 0, 0, 1]), .inBlock 3, .code (C 20 [1, 1, 1, 0, 1, 0, 0, 1, 0, 0, 1, 0, 0, 1, 1]), .inLoop (C 20 [1, 1, 1, 0, 1, 0, 0, 1, 0, 0, 1, 0, 0]), .inBlock 2, .inBlock 1, .code (C 20 [1, 1, 1, 0, 1, 0, 0, 1, 1]), .inLoop (C 20 [1, 1, 1, 0, 1, 0, 0]), .inBlock 0, .code (C 20 [1, 1, 1, 1])], [], .run, false, none⟩, [], ⟨2, 15, 5, (m (.cells [e0, (.pure 3 (.get (.vv 0) (.il 1)) (q 12 0)), (.pure 27 (.get (.vv 0) (.il 2)) (q 13 0)), (.pure 27 (.get (.vv 0) (.il 3)) (q 14 0))]) (l (.tree 27 (.vv 4) none)) z z z)⟩⟩
noncomputable def s4 : SMach := ⟨⟨20, 165, (n (m (.pure 3 (.vv 1) (q 12 0)) (l e1) z z z) (m (.addr 0 0) (l (.view 1)) (l (.pure 27 (.vv 6) (q 16 0))) z z) (n (l (.int .i64 (.iv 0))) (l (.int .i64 (.iv 2))) z z) (n (l (.int .i64 (.iv 1))) z z z)), [.code (C 20 [1, 1, 1, 0, 1, 0, 0, 1, 0, 0, 1, 0, 0, 1, 0, 0, 1, 1, 1, 0, 0]), .inLoop (C 20 [1, 1, 1, 0, 1, 0, 0, 1, 0, 0, 1, 0, 0, 1, 0, 0, 1, 1, 1, 0, 0]), .inBlock 6, .inBlock 3, .code (C 20 [1, 1, 1, 0, 1, 0, 0, 1, 0, 0, 1, 0, 0, 1, 1]), .inLoop (C 20 [1, 1, 1, 0, 1, 0, 0, 1, 0, 0, 1, 0, 0]), .inBlock 2, .inBlock 1, .code (C 20 [1, 1, 1, 0, 1, 0, 0, 1, 1]), .inLoop (C 20 [1, 1, 1, 0, 1, 0, 0]), .inBlock 0, .code (C 20 [1, 1, 1, 1])], [], .run, false, none⟩, [], ⟨2, 17, 7, (m (.cells [e0, (.pure 3 (.get (.vv 0) (.il 1)) (q 13 0)), (.pure 27 (.get (.vv 0) (.il 2)) (q 14 0)), (.pure 27 (.get (.vv 0) (.il 3)) (q 15 0))]) (l (.tree 27 (.vv 5) none)) z z z)⟩⟩
noncomputable def s5 : SMach := ⟨⟨20, 165, (n (m (.pure 3 (.vv 1) (q 17 0)) (l e1) z (l (.int .i64 (.iv 1))) z) (m (.addr 0 0) (l (.view 1)) (l (.pure 27 (.vv 6) (q 21 0))) (l (.int .i64 (.iv 2))) z) (n (l (.int .i64 (.iv 3))) (l (.int .i64 (.iv 5))) z z) (n (l (.int .i64 (.iv 4))) (l (.int .i64 (.iv 0))) z z)), [.code (C 20 [1, 1, 1, 0, 1, 0, 0, 1, 0, 0, 1, 0, 0, 1, 0, 0, 1, 1, 1, 0, 0, 1, 0, 0, 1, 0, 1, 0, 0]), .inLoop (C 20 [1, 1, 1, 0, 1, 0, 0, 1, 0, 0, 1, 0, 0, 1, 0, 0, 1, 1, 1, 0, 0, 1, 0, 0, 1, 0, 1, 0, 0]), .inBlock 8, .code (C 20 [1, 1, 1, 0, 1, 0, 0, 1, 0, 0, 1, 0, 0, 1, 0, 0, 1, 1, 1, 0, 0, 1, 0, 0, 1, 1]), .inBlock 7, .code (C 20 [1, 1, 1, 0, 1, 0, 0, 1, 0, 0, 1, 0, 0, 1, 0, 0, 1, 1, 1, 0, 0, 1, 1]), .inLoop (C 20 [1, 1, 1, 0, 1, 0, 0, 1, 0, 0, 1, 0, 0, 1, 0, 0, 1, 1, 1, 0, 0]), .inBlock 6, .inBlock 3, .code (C 20 [1, 1, 1, 0, 1, 0, 0, 1, 0, 0, 1, 0, 0, 1, 1]), .inLoop (C 20 [1, 1, 1, 0, 1, 0, 0, 1, 0, 0, 1, 0, 0]), .inBlock 2, .inBlock 1, .code (C 20 [1, 1, 1, 0, 1, 0, 0, 1, 1]), .inLoop (C 20 [1, 1, 1, 0, 1, 0, 0]), .inBlock 0, .code (C 20 [1, 1, 1, 1])], [], .run, false, none⟩, [], ⟨2, 22, 7, (m (.cells [e0, (.pure 3 (.get (.vv 0) (.il 1)) (q 18 0)), (.pure 27 (.get (.vv 0) (.il 2)) (q 19 0)), (.pure 27 (.get (.vv 0) (.il 3)) (q 20 0))]) (l (.tree 27 (.vv 5) none)) z z z)⟩⟩
theorem b : sbegin prog 20 = some s0 := by kernel_rfl
end rBackward
end X
namespace X
open Go Go.Abs Go.Sym
namespace watch
abbrev f : Nat := 47
noncomputable def K : Cfg := ⟨prog, pl, [], [45], []⟩
noncomputable def s0 : SMach := ⟨⟨47, 43, (m (.agg [(.int .i64 (.toI (.get (.vv 0) (.il 0)))), (.pure 3 (.get (.vv 0) (.il 1)) (q 0 1)), (.pure 27 (.get (.vv 0) (.il 2)) (q 0 2)), (.pure 27 (.get (.vv 0) (.il 3)) (q 0 3))]) (l (.pure 3 (.vv 1) (q 1 0))) z z z), [.code (C 47 [])], [], .run, false, none⟩, [], ⟨0, 2, 2, z⟩⟩
noncomputable def s1 : SMach := ⟨⟨47, 43, (n (m (.pure 3 (.vv 1) (q 3 0)) (n (l (.pure 3 (.vv 1) (q 7 0))) z z z) z z z) (m (.addr 0 0) (n (l (.int .i64 (.len (.vv 1)))) z z z) z z z) (n (n (l (.int .i64 (.iv 0))) z z z) z z z) (l (.addr 1 0))), [.code (C 47 [1, 1, 1, 0, 1, 0, 0]), .inLoop (C 47 [1, 1, 1, 0, 1, 0, 0]), .inBlock 0, .code (C 47 [1, 1, 1, 1])], [], .run, false, none⟩, [], ⟨2, 8, 3, (m (.cells [(.int .i64 (.toI (.get (.vv 0) (.il 0)))), (.pure 3 (.get (.vv 0) (.il 1)) (q 4 0)), (.pure 27 (.get (.vv 0) (.il 2)) (q 5 0)), (.pure 27 (.get (.vv 0) (.il 3)) (q 6 0))]) (l (.cells [(.int .i64 (.il 0)), .nils, .nils, .nils, .nils])) z z z)⟩⟩
theorem p0 : last K 47 21 [true] s0 = some ((.snoc (.snoc .emp (.snoc (.snoc .emp (.snoc (.snoc (.snoc (.snoc .emp (.ofI (.il 0))) .nil) .nil) .nil)) .nil)) (.ofI (.il 170))), [.call 45 [(HM (.vv 0))], .ask (.not (.toB (.vv 2)))]) := by kernel_rfl
theorem p1 : last K 47 35 [false, true] s0 = some ((.snoc (.snoc .emp (.snoc (.snoc .emp (.snoc (.snoc (.snoc (.snoc .emp (.ofI (.il 0))) .nil) .nil) .nil)) .nil)) (.ofI (.il 2))), [.call 45 [(HM (.vv 0))], .ask (.not (.not (.toB (.vv 2)))), .ask (.lt (.len (.vv 1)) (.il 1))]) := by kernel_rfl
theorem p2 : last K 47 35 [false, false, true] s0 = some ((.snoc (.snoc .emp (.snoc (.snoc .emp (.snoc (.snoc (.snoc (.snoc .emp (.ofI (.il 0))) .nil) .nil) .nil)) .nil)) (.ofI (.il 2))), [.call 45 [(HM (.vv 0))], .ask (.not (.not (.toB (.vv 2)))), .ask (.not (.lt (.len (.vv 1)) (.il 1))), .ask (.lt (.il 8) (.len (.vv 1)))]) := by kernel_rfl
theorem p3 : stretch K 38 [false, false, false] s0 s1 [] ⟨[(.il 0)], [], [(.vv 0), (.vv 1), (.vv 2)], [(q 0 0), (q 1 0), (q 2 0), (q 1 0), (q 0 1), (q 0 2), (q 0 3), (q 1 0)]⟩ [(0, (some 0)), (1, (some 1))] = some (s1, [.call 45 [(HM (.vv 0))], .ask (.not (.not (.toB (.vv 2)))), .ask (.not (.lt (.len (.vv 1)) (.il 1))), .ask (.not (.lt (.il 8) (.len (.vv 1))))]) := by kernel_rfl
theorem p4 : last K 47 37 [true, true] s1 = some ((.snoc (.snoc .emp (.snoc (.snoc .emp (.snoc (.snoc (.snoc (.snoc .emp (.ofI (.il 0))) .nil) .nil) .nil)) .nil)) (.ofI (.il 2))), [.ask (.lt (.iv 0) (.len (.vv 1))), .ask (IB (.iv 0) (.vv 1)), .ask (.lt (.toI (.get (.vv 1) (.iv 0))) (.il (-1)))]) := by kernel_rfl
theorem p5 : last K 47 37 [true, false, true] s1 = some ((.snoc (.snoc .emp (.snoc (.snoc .emp (.snoc (.snoc (.snoc (.snoc .emp (.ofI (.il 0))) .nil) .nil) .nil)) .nil)) (.ofI (.il 2))), [.ask (.lt (.iv 0) (.len (.vv 1))), .ask (IB (.iv 0) (.vv 1)), .ask (.not (.lt (.toI (.get (.vv 1) (.iv 0))) (.il (-1)))), .ask (.lt (.il 0) (.len (.get (.vv 0) (.il 3)))), .ask (.le (.len (.get (.get (.vv 0) (.il 3)) (.il 0))) (.toI (.get (.vv 1) (.iv 0))))]) := by kernel_rfl
theorem p6 : stretch K 37 [true, false, false] s1 s1 [] ⟨[(.add (.iv 0) (.il 1))], [], [(.vv 0), (.vv 1), (.vv 2)], (Z [0, 1, 2, 3, 4, 5, 6, 7])⟩ [(0, (some 0)), (1, (some 1))] = some (s1, [.ask (.lt (.iv 0) (.len (.vv 1))), .ask (IB (.iv 0) (.vv 1)), .ask (.not (.lt (.toI (.get (.vv 1) (.iv 0))) (.il (-1)))), .ask (.lt (.il 0) (.len (.get (.vv 0) (.il 3)))), .ask (.not (.le (.len (.get (.get (.vv 0) (.il 3)) (.il 0))) (.toI (.get (.vv 1) (.iv 0))))), .ask (FT (.add (.iv 0) (.il 1)))]) := by kernel_rfl
theorem p7 : last K 47 16 [false] s1 = some ((.snoc (.snoc .emp (.snoc (.snoc .emp (HM (.vv 0))) (.vv 1))) (.ofI (.il 0))), [.ask (.not (.lt (.iv 0) (.len (.vv 1))))]) := by kernel_rfl
theorem b : sbegin prog 47 = some s0 := by kernel_rfl
end watch
end X
namespace X
open Go Go.Abs Go.Sym
namespace hshows
abbrev f : Nat := 83
noncomputable def K : Cfg := ⟨prog, pl, [], [], []⟩
noncomputable def s0 : SMach := ⟨⟨83, 29, (m (.agg [(.int .i64 (.toI (.get (.get (.vv 0) (.il 0)) (.il 0)))), (.pure 3 (.get (.get (.vv 0) (.il 0)) (.il 1)) (q 0 1)), (.pure 27 (.get (.get (.vv 0) (.il 0)) (.il 2)) (q 0 2)), (.pure 27 (.get (.get (.vv 0) (.il 0)) (.il 3)) (q 0 3)), (.pure 3 (.get (.vv 0) (.il 1)) (q 0 4))]) (l (.int .i64 (.toI (.vv 1)))) (l (.int .i64 (.toI (.vv 2)))) z z), [.code (C 83 [])], [], .run, false, none⟩, [], ⟨0, 3, 3, z⟩⟩
theorem p0 : last K 83 24 [true] s0 = some ((.ofI (.toI (.get (.get (.vv 0) (.il 0)) (.il 0)))), [.ask (IB (.toI (.vv 1)) (.get (.vv 0) (.il 1))), .ask (.lt (.toI (.get (.get (.vv 0) (.il 1)) (.toI (.vv 1)))) (.il 0))]) := by kernel_rfl
theorem p1 : last K 83 35 [false] s0 = some ((.ofI (.toI (.get (.get (.get (.get (.vv 0) (.il 0)) (.il 3)) (.toI (.vv 2))) (.toI (.get (.get (.vv 0) (.il 1)) (.toI (.vv 1))))))), [.ask (IB (.toI (.vv 1)) (.get (.vv 0) (.il 1))), .ask (.not (.lt (.toI (.get (.get (.vv 0) (.il 1)) (.toI (.vv 1)))) (.il 0))), .ask (IB (.toI (.vv 2)) (.get (.get (.vv 0) (.il 0)) (.il 3))), .ask (IB (.toI (.vv 1)) (.get (.vv 0) (.il 1))), .ask (IB (.toI (.get (.get (.vv 0) (.il 1)) (.toI (.vv 1)))) (.get (.get (.get (.vv 0) (.il 0)) (.il 3)) (.toI (.vv 2))))]) := by kernel_rfl
theorem b : sbegin prog 83 = some s0 := by kernel_rfl
end hshows
end X
namespace X
open Go Go.Abs Go.Sym
namespace forward
abbrev f : Nat := 48
noncomputable def K : Cfg := ⟨prog, pl, [(81, 29)], [83], []⟩
noncomputable def e0 : SV := .int .i64 (.toI (.get (.get (.vv 0) (.il 0)) (.il 0)))
noncomputable def e1 : E := .get (.get (.vv 0) (.il 0)) (.il 1)
noncomputable def e2 : E := .get (.get (.vv 0) (.il 0)) (.il 2)
noncomputable def e3 : E := .get (.get (.vv 0) (.il 0)) (.il 3)
noncomputable def e4 : SV := .func 82 [] [(.addr 0 0)]
noncomputable def s0 : SMach := ⟨⟨48, 6, (l (.agg [e0, (.pure 3 e1 (q 0 1)), (.pure 27 e2 (q 0 2)), (.pure 27 e3 (q 0 3)), (.pure 3 (.get (.vv 0) (.il 1)) (q 0 4))])), [.code (C 48 [])], [], .run, false, none⟩, [], ⟨0, 1, 1, z⟩⟩
noncomputable def s1 : SMach := ⟨⟨65, 17, (n (l (.yieldf 8)) (l (.addr 9 0)) z (l (.int .i64 (.iv 0)))), [.code (C 65 [1, 1, 0, 0]), .inLoop (C 65 [1, 1, 0, 0]), .inBlock 0], [], .run, false, none⟩, [⟨98, 10, (m (.yieldf 8) (l (.addr 2 0)) (m (.addr 1 0) (l (.func 65 [] [])) z z z) (n (l (.agg [e0, (.pure 3 e1 (q 13 0)), (.pure 27 e2 (q 14 0)), (.pure 27 e3 (q 15 0)), (.pure 3 (.get (.vv 0) (.il 1)) (q 16 0))])) z z z) (m (.int .i64 (.il 0)) (l (.yieldf 8)) z z z)), [.dreg (O 98 []) [(5, [])]], [], .run, false, none⟩, ⟨81, 44, (n (n (l (.addr 3 0)) z z z) z (m (.addr 1 0) (l (.addr 5 0)) z z z) (n (l (.addr 6 0)) z z z)), [.inRangeFunc 8, .inBlock 0, .code (C 81 [1, 1, 1, 1])], [⟨.collected 7, []⟩], .run, false, none⟩, ⟨48, 6, (n z z (l (.agg [e0, (.pure 3 e1 (q 17 0)), (.pure 27 e2 (q 18 0)), (.pure 27 e3 (q 19 0)), (.pure 3 (.get (.vv 0) (.il 1)) (q 20 0))])) (l e4)), [R 48 [1, 0] 2, .code .ret], [], .run, false, none⟩], ⟨10, 22, 3, (m (.cells [e0, (.pure 3 e1 (q 5 0)), (.pure 27 e2 (q 6 0)), (.pure 27 e3 (q 7 0)), (.pure 3 (.get (.vv 0) (.il 1)) (q 8 0))]) (m (.cells [e0, (.pure 3 e1 (q 1 0)), (.pure 27 e2 (q 2 0)), (.pure 27 e3 (q 3 0)), (.pure 3 (.get (.vv 0) (.il 1)) (q 4 0))]) (l (.cells [(.view 4)])) (l (.cells [e0, (.pure 3 e1 (q 9 0)), (.pure 27 e2 (q 10 0)), (.pure 27 e3 (q 11 0)), (.pure 3 (.get (.vv 0) (.il 1)) (q 12 0))])) z z) (m (.cells [(.int .i64 (.il 0))]) (l (.cells [(.pure 3 (.vv 1) (q 21 0))])) z z z) (m (.cells [e4]) (l (.deferred (some []))) z z z) (m (.arr 27 (.vv 2) 0) (l (.loop ⟨.ready, none, 81, 44, (n (n (l (.addr 3 0)) z z z) z (m (.addr 1 0) (l (.addr 5 0)) z z z) (n (l (.addr 6 0)) z z z)), PA 81 [1, 1, 1, 0, 1, 0], (C 81 [1, 1, 1, 0, 1, 0, 0]), (C 81 [1, 1, 1, 0, 1, 0, 1]), 7⟩)) z z z))⟩⟩
noncomputable def s2 : SMach := ⟨⟨81, 44, (n (n (m (.addr 3 0) (l (.int .i64 (.il 0))) z z z) (l (.int .i64 (.iv 0))) z z) z (n (l (.addr 5 0)) z z z) (n (l (.addr 6 0)) z z (l (.int .i64 (.len e1))))), [.code (C 81 [1, 1, 1, 0, 1, 0, 1, 0, 0, 1, 0, 0]), .inLoop (C 81 [1, 1, 1, 0, 1, 0, 1, 0, 0, 1, 0, 0]), .inBlock 2, .code (C 81 [1, 1, 1, 0, 1, 0, 1, 0, 1]), .inBlock 1], [], .run, false, (some 8)⟩, [⟨65, 17, (n (l (.yieldf 8)) (m (.addr 9 0) z (l (.bool (.bl true))) z z) (n z (l (.yieldf 8)) z z) (m (.int .i64 (.iv 0)) z (l (.int .i64 (.iv 0))) z z)), [R 65 [1, 1, 0, 0, 0, 0] 8, .code (C 65 [1, 1, 0, 0, 0, 1]), .code (C 65 [1, 1, 0, 0, 1]), .inLoop (C 65 [1, 1, 0, 0]), .inBlock 0], [], .run, false, none⟩, ⟨98, 10, (m (.yieldf 8) (l (.addr 2 0)) (m (.addr 1 0) (l (.func 65 [] [])) z z z) (n (l (.agg [e0, (.pure 3 e1 (q 33 0)), (.pure 27 e2 (q 34 0)), (.pure 27 e3 (q 35 0)), (.pure 3 (.get (.vv 0) (.il 1)) (q 36 0))])) z z z) (m (.int .i64 (.il 0)) (l (.yieldf 8)) z z z)), [.dreg (O 98 []) [(5, [])]], [], .run, false, none⟩, ⟨81, 44, (n (n (l (.addr 3 0)) z z z) z (m (.addr 1 0) (l (.addr 5 0)) z z z) (n (l (.addr 6 0)) z z z)), [.inRangeFunc 8, .inBlock 0, .code (C 81 [1, 1, 1, 1])], [⟨.collected 7, []⟩], .run, false, none⟩, ⟨48, 6, (n z z (l (.agg [e0, (.pure 3 e1 (q 37 0)), (.pure 27 e2 (q 38 0)), (.pure 27 e3 (q 39 0)), (.pure 3 (.get (.vv 0) (.il 1)) (q 40 0))])) (l e4)), [R 48 [1, 0] 2, .code .ret], [], .run, false, none⟩], ⟨10, 42, 3, (m (.cells [e0, (.pure 3 e1 (q 21 0)), (.pure 27 e2 (q 22 0)), (.pure 27 e3 (q 23 0)), (.pure 3 (.get (.vv 0) (.il 1)) (q 24 0))]) (m (.cells [e0, (.pure 3 e1 (q 25 0)), (.pure 27 e2 (q 26 0)), (.pure 27 e3 (q 27 0)), (.pure 3 (.get (.vv 0) (.il 1)) (q 28 0))]) (l (.cells [(.view 4)])) (l (.cells [e0, (.pure 3 e1 (q 29 0)), (.pure 27 e2 (q 30 0)), (.pure 27 e3 (q 31 0)), (.pure 3 (.get (.vv 0) (.il 1)) (q 32 0))])) z z) (m (.cells [(.int .i64 (.il 0))]) (l (.cells [(.pure 3 (.vv 1) (q 41 0))])) z z z) (m (.cells [e4]) (l (.deferred (some []))) z z z) (m (.arr 27 (.vv 2) 0) (l (.loop ⟨.busy, none, 81, 44, (n (n (l (.addr 3 0)) z z z) z (m (.addr 1 0) (l (.addr 5 0)) z z z) (n (l (.addr 6 0)) z z z)), PA 81 [1, 1, 1, 0, 1, 0], (C 81 [1, 1, 1, 0, 1, 0, 0]), (C 81 [1, 1, 1, 0, 1, 0, 1]), 7⟩)) z z z))⟩⟩
noncomputable def s3 : SMach := ⟨⟨82, 46, (m (.int .i64 (.iv 1)) (m (.int .i64 (.iv 0)) z z (l (.int .i64 (.iv 4))) z) z (m (.addr 0 0) z (l (.pure 3 (.vv 2) (q 61 0))) z z) (n (l (.int .i64 (.iv 3))) (l (.int .i64 (.iv 2))) z z)), [.code (C 82 [1, 1, 0, 1, 0, 0]), .inLoop (C 82 [1, 1, 0, 1, 0, 0]), .inBlock 0, .code (C 82 [1, 1, 1])], [], .run, false, none⟩, [⟨81, 44, (n (n (m (.addr 3 0) (l (.int .i64 (.iv 0))) z z z) (m (.int .i64 (.iv 1)) (l (.int .i64 (.iv 1))) z z z) (n (l (.view 10)) z z z) (n (l (.pure 3 (.vv 4) (q 63 0))) z z z)) (n z (m (.int .i64 (.iv 0)) (l (.view 4)) z z z) (n (l e4) z z z) z) (n (l (.addr 5 0)) (n (l (.int .i64 (.iv 1))) z z z) (n (l (.int .i64 (.iv 1))) z z z) z) (n (m (.addr 6 0) (l (.view 4)) z z z) (n (l (.addrE 4 (.iv 1) 0)) z z z) (n (l (.int .i64 (.iv 0))) z z z) (l (.int .i64 (.len e1))))), [.dreg (O 81 [1, 1, 1, 0, 1, 0, 1, 0, 0, 1, 0, 0, 1, 1, 0, 0, 1]) [(10, [0, 2, 5]), (11, []), (12, [0]), (13, []), (14, [])], .inBlock 3, .code (C 81 [1, 1, 1, 0, 1, 0, 1, 0, 0, 1, 0, 0, 1, 1, 1]), .inLoop (C 81 [1, 1, 1, 0, 1, 0, 1, 0, 0, 1, 0, 0]), .inBlock 2, .code (C 81 [1, 1, 1, 0, 1, 0, 1, 0, 1]), .inBlock 1], [], .run, false, (some 8)⟩, ⟨65, 17, (n (l (.yieldf 8)) (m (.addr 9 0) z (l (.bool (.bl true))) z z) (n z (l (.yieldf 8)) z z) (m (.int .i64 (.iv 1)) z (l (.int .i64 (.iv 1))) z z)), [R 65 [1, 1, 0, 0, 0, 0] 8, .code (C 65 [1, 1, 0, 0, 0, 1]), .code (C 65 [1, 1, 0, 0, 1]), .inLoop (C 65 [1, 1, 0, 0]), .inBlock 0], [], .run, false, none⟩, ⟨98, 10, (m (.yieldf 8) (l (.addr 2 0)) (m (.addr 1 0) (l (.func 65 [] [])) z z z) (n (l (.agg [e0, (.pure 3 e1 (q 53 0)), (.pure 27 e2 (q 54 0)), (.pure 27 e3 (q 55 0)), (.pure 3 (.get (.vv 0) (.il 1)) (q 56 0))])) z z z) (m (.int .i64 (.il 0)) (l (.yieldf 8)) z z z)), [.dreg (O 98 []) [(5, [])]], [], .run, false, none⟩, ⟨81, 44, (n (n (l (.addr 3 0)) z z z) z (m (.addr 1 0) (l (.addr 5 0)) z z z) (n (l (.addr 6 0)) z z z)), [.inRangeFunc 8, .inBlock 0, .code (C 81 [1, 1, 1, 1])], [⟨.collected 7, []⟩], .run, false, none⟩, ⟨48, 6, (n z z (l (.agg [e0, (.pure 3 e1 (q 57 0)), (.pure 27 e2 (q 58 0)), (.pure 27 e3 (q 59 0)), (.pure 3 (.get (.vv 0) (.il 1)) (q 60 0))])) (l e4)), [R 48 [1, 0] 2, .code .ret], [], .run, false, none⟩], ⟨12, 64, 6, (m (.cells [e0, (.pure 3 e1 (q 41 0)), (.pure 27 e2 (q 42 0)), (.pure 27 e3 (q 43 0)), (.pure 3 (.get (.vv 0) (.il 1)) (q 44 0))]) (m (.cells [e0, (.pure 3 e1 (q 45 0)), (.pure 27 e2 (q 46 0)), (.pure 27 e3 (q 47 0)), (.pure 3 (.get (.vv 0) (.il 1)) (q 48 0))]) (l (.cells [(.view 4)])) (l (.cells [e0, (.pure 3 e1 (q 49 0)), (.pure 27 e2 (q 50 0)), (.pure 27 e3 (q 51 0)), (.pure 3 (.get (.vv 0) (.il 1)) (q 52 0))])) z z) (m (.cells [(.int .i64 (.il 0))]) (l (.cells [(.pure 3 (.vv 3) (q 62 0))])) (l (.arr 3 (.vv 1) 0)) z z) (m (.cells [e4]) (l (.deferred (some []))) z z z) (m (.arrH 27 3 (.vv 5) (.iv 1) 10) (l (.loop ⟨.busy, none, 81, 44, (n (n (l (.addr 3 0)) z z z) z (m (.addr 1 0) (l (.addr 5 0)) z z z) (n (l (.addr 6 0)) z z z)), PA 81 [1, 1, 1, 0, 1, 0], (C 81 [1, 1, 1, 0, 1, 0, 0]), (C 81 [1, 1, 1, 0, 1, 0, 1]), 7⟩)) z z z))⟩⟩
noncomputable def s4 : SMach := ⟨⟨81, 44, (n (n (m (.addr 3 0) (l (.int .i64 (.iv 1))) z z z) (l (.int .i64 (.iv 0))) z z) z (n (l (.addr 5 0)) z z z) (n (l (.addr 6 0)) z z (l (.int .i64 (.len e1))))), [.code (C 81 [1, 1, 1, 0, 1, 0, 1, 0, 0, 1, 0, 0]), .inLoop (C 81 [1, 1, 1, 0, 1, 0, 1, 0, 0, 1, 0, 0]), .inBlock 2, .code (C 81 [1, 1, 1, 0, 1, 0, 1, 0, 1]), .inBlock 1], [], .run, false, (some 8)⟩, [⟨65, 17, (n (l (.yieldf 8)) (m (.addr 9 0) z (l (.bool (.bl true))) z z) (n z (l (.yieldf 8)) z z) (m (.int .i64 (.iv 0)) z (l (.int .i64 (.iv 0))) z z)), [R 65 [1, 1, 0, 0, 0, 0] 8, .code (C 65 [1, 1, 0, 0, 0, 1]), .code (C 65 [1, 1, 0, 0, 1]), .inLoop (C 65 [1, 1, 0, 0]), .inBlock 0], [], .run, false, none⟩, ⟨98, 10, (m (.yieldf 8) (l (.addr 2 0)) (m (.addr 1 0) (l (.func 65 [] [])) z z z) (n (l (.agg [e0, (.pure 3 e1 (q 74 0)), (.pure 27 e2 (q 75 0)), (.pure 27 e3 (q 76 0)), (.pure 3 (.get (.vv 0) (.il 1)) (q 77 0))])) z z z) (m (.int .i64 (.il 0)) (l (.yieldf 8)) z z z)), [.dreg (O 98 []) [(5, [])]], [], .run, false, none⟩, ⟨81, 44, (n (n (l (.addr 3 0)) z z z) z (m (.addr 1 0) (l (.addr 5 0)) z z z) (n (l (.addr 6 0)) z z z)), [.inRangeFunc 8, .inBlock 0, .code (C 81 [1, 1, 1, 1])], [⟨.collected 7, []⟩], .run, false, none⟩, ⟨48, 6, (n z z (l (.agg [e0, (.pure 3 e1 (q 78 0)), (.pure 27 e2 (q 79 0)), (.pure 27 e3 (q 80 0)), (.pure 3 (.get (.vv 0) (.il 1)) (q 81 0))])) (l e4)), [R 48 [1, 0] 2, .code .ret], [], .run, false, none⟩], ⟨14, 83, 5, (m (.cells [e0, (.pure 3 e1 (q 62 0)), (.pure 27 e2 (q 63 0)), (.pure 27 e3 (q 64 0)), (.pure 3 (.get (.vv 0) (.il 1)) (q 65 0))]) (m (.cells [e0, (.pure 3 e1 (q 66 0)), (.pure 27 e2 (q 67 0)), (.pure 27 e3 (q 68 0)), (.pure 3 (.get (.vv 0) (.il 1)) (q 69 0))]) (l (.cells [(.view 4)])) (l (.cells [e0, (.pure 3 e1 (q 70 0)), (.pure 27 e2 (q 71 0)), (.pure 27 e3 (q 72 0)), (.pure 3 (.get (.vv 0) (.il 1)) (q 73 0))])) (l (.arr 3 (.vv 2) 0)) z) (m (.cells [(.int .i64 (.il 0))]) (l (.cells [(.pure 3 (.vv 3) (q 82 0))])) z z z) (m (.cells [e4]) (l (.deferred (some []))) z z z) (m (.arrH 27 3 (.vv 4) (.iv 0) 13) (l (.loop ⟨.busy, none, 81, 44, (n (n (l (.addr 3 0)) z z z) z (m (.addr 1 0) (l (.addr 5 0)) z z z) (n (l (.addr 6 0)) z z z)), PA 81 [1, 1, 1, 0, 1, 0], (C 81 [1, 1, 1, 0, 1, 0, 0]), (C 81 [1, 1, 1, 0, 1, 0, 1]), 7⟩)) z z z))⟩⟩
theorem p0 : stretch K 54 [] s0 s1 [] ⟨[(.il 0)], [], [(.vv 0), .nil, (.rep (.len (.get (.vv 0) (.il 1))) .nil)], [(q 0 0), (q 0 1), (q 0 2), (q 0 3), (q 0 4), (q 0 1), (q 0 2), (q 0 3), (q 0 4), (q 0 1), (q 0 2), (q 0 3), (q 0 4), (q 0 1), (q 0 2), (q 0 3), (q 0 4), (q 0 1), (q 0 2), (q 0 3), (q 0 4), .nil]⟩ [(8, (some 8)), (1, (some 1)), (3, (some 3)), (0, (some 0)), (5, (some 5)), (4, (some 4)), (6, (some 6)), (7, (some 7)), (9, (some 9)), (2, (some 2))] = some (s1, [.ask (.and (.le (.il 0) (.len (.get (.vv 0) (.il 1)))) (.le (.len (.get (.vv 0) (.il 1))) (.il 5864062014805)))]) := by kernel_rfl
theorem p1 : stretch K 28 [true] s1 s2 [] ⟨[(.iv 0)], [], [(.vv 0), (.vv 1), (.vv 2)], (Z [0, 1, 2, 3, 4, 5, 6, 7, 8, 9, 10, 11, 12, 13, 14, 15, 16, 17, 18, 19, 20, 5, 6, 7, 8, 1, 2, 3, 4, 9, 10, 11, 12, 13, 14, 15, 16, 17, 18, 19, 20, 21])⟩ [(3, (some 3)), (0, (some 0)), (5, (some 5)), (4, (some 4)), (6, (some 6)), (8, (some 8)), (1, (some 1)), (7, (some 7)), (9, (some 9)), (2, (some 2))] = some (s2, [.ask (.lt (.iv 0) (.len (.get (.vv 0) (.il 1))))]) := by kernel_rfl
theorem p2 : last K 48 34 [false] s1 = some ((.vv 2), [.ask (.not (.lt (.iv 0) (.len (.get (.vv 0) (.il 1)))))]) := by kernel_rfl
theorem p3 : stretch K 43 [true] s2 s3 [] ⟨[(.il 0), (.iv 0), (.len (.vv 1)), (.il 0), (.il 0)], [], [(.vv 0), .nil, (.vv 1), (.vv 1), (.vv 1), (.vv 2)], (Z [0, 1, 2, 3, 4, 5, 6, 7, 8, 9, 10, 11, 12, 13, 14, 15, 16, 17, 18, 19, 20, 21, 22, 23, 24, 25, 26, 27, 28, 29, 30, 31, 32, 33, 34, 35, 36, 37, 38, 39, 40, 21, 22, 23, 24, 25, 26, 27, 28, 29, 30, 31, 32, 33, 34, 35, 36, 37, 38, 39, 40, 41, 41, 41])⟩ [(0, (some 0)), (3, (some 3)), (5, (some 5)), (4, (some 4)), (10, (some 10)), (6, (some 6)), (8, (some 8)), (1, (some 1)), (7, (some 7)), (9, (some 9)), (2, (some 2))] = some (s3, [.ask (.lt (.il 0) (.len (.get (.get (.vv 0) (.il 0)) (.il 1)))), .ask (IB (.iv 0) (.vv 2)), .ask (.isNil (.get (.vv 2) (.iv 0))), .ask (IB (.iv 0) (.vv 2)), .ask (IB (.iv 0) (.vv 2))]) := by kernel_rfl
theorem p5 : stretch K 39 [true] s3 s3 [] ⟨[(.iv 0), (.iv 1), (.iv 2), (.add (.iv 3) (.mul (.toI (.get (.vv 2) (.iv 4))) (.toI (.get (.get (.get (.get (.vv 0) (.il 0)) (.il 2)) (.iv 4)) (.iv 0))))), (.add (.iv 4) (.il 1))], [], [(.vv 0), (.vv 1), (.vv 2), (.vv 3), (.vv 4), (.vv 5)], (Z [0, 1, 2, 3, 4, 5, 6, 7, 8, 9, 10, 11, 12, 13, 14, 15, 16, 17, 18, 19, 20, 21, 22, 23, 24, 25, 26, 27, 28, 29, 30, 31, 32, 33, 34, 35, 36, 37, 38, 39, 40, 41, 42, 43, 44, 45, 46, 47, 48, 49, 50, 51, 52, 53, 54, 55, 56, 57, 58, 59, 60, 61, 62, 63])⟩ [(0, (some 0)), (3, (some 3)), (5, (some 5)), (4, (some 4)), (10, (some 10)), (6, (some 6)), (8, (some 8)), (1, (some 1)), (7, (some 7)), (9, (some 9)), (2, (some 2))] = some (s3, [.ask (.lt (.iv 4) (.iv 2)), .ask (IB (.iv 4) (.vv 2)), .ask (IB (.iv 4) (.get (.get (.vv 0) (.il 0)) (.il 2))), .ask (IB (.iv 0) (.get (.get (.get (.vv 0) (.il 0)) (.il 2)) (.iv 4))), .ask (FT (.mul (.toI (.get (.vv 2) (.iv 4))) (.toI (.get (.get (.get (.get (.vv 0) (.il 0)) (.il 2)) (.iv 4)) (.iv 0))))), .ask (FT (.add (.iv 3) (.mul (.toI (.get (.vv 2) (.iv 4))) (.toI (.get (.get (.get (.get (.vv 0) (.il 0)) (.il 2)) (.iv 4)) (.iv 0)))))), .ask (FT (.add (.iv 4) (.il 1)))]) := by kernel_rfl
theorem p6 : stretch K 46 [false, true] s3 s4 [] ⟨[(.iv 1), (.add (.iv 0) (.il 1))], [], [(.vv 0), (.vv 1), (.snoc (.vv 1) (.ofI (.mul (.toI (.get (.get (.get (.vv 0) (.il 0)) (.il 1)) (.iv 0))) (.toI (.vv 6))))), (.vv 3), (.vv 5)], (Z [0, 1, 2, 3, 4, 5, 6, 7, 8, 9, 10, 11, 12, 13, 14, 15, 16, 17, 18, 19, 20, 21, 22, 23, 24, 25, 26, 27, 28, 29, 30, 31, 32, 33, 34, 35, 36, 37, 38, 39, 40, 41, 42, 43, 44, 45, 46, 47, 48, 49, 50, 51, 52, 53, 54, 55, 56, 57, 58, 59, 60, 61, 41, 42, 43, 44, 45, 46, 47, 48, 49, 50, 51, 52, 53, 54, 55, 56, 57, 58, 59, 60, 62])⟩ [(3, (some 3)), (0, (some 0)), (5, (some 5)), (4, (some 4)), (13, (some 13)), (6, (some 6)), (8, (some 8)), (1, (some 1)), (7, (some 7)), (9, (some 9)), (2, (some 2))] = some (s4, [.ask (.not (.lt (.iv 4) (.iv 2))), .ask (.eq (.iv 1) (.il 0)), .ask (IB (.iv 0) (.get (.get (.vv 0) (.il 0)) (.il 1))), .call 83 [(.snoc (.snoc .emp (HM (.get (.vv 0) (.il 0)))) (.get (.vv 0) (.il 1))), (.ofI (.iv 1)), (.ofI (.iv 0))], .ask (FT (.mul (.toI (.get (.get (.get (.vv 0) (.il 0)) (.il 1)) (.iv 0))) (.toI (.vv 6)))), .ask (IB (.iv 1) (.vv 5)), .ask (.le (.add (.len (.vv 1)) (.il 1)) (.il 8796093021696)), .ask (IB (.iv 1) (.vv 5)), .ask (IB (.iv 1) (.vv 5)), .ask (FT (.add (.iv 0) (.il 1)))]) := by kernel_rfl
theorem p7 : stretch K 38 [false, false] s3 s4 [] ⟨[(.iv 1), (.add (.iv 0) (.il 1))], [], [(.vv 0), (.vv 1), (.snoc (.vv 1) (.ofI (.mul (.iv 3) (.toI (.vv 6))))), (.vv 3), (.vv 5)], (Z [0, 1, 2, 3, 4, 5, 6, 7, 8, 9, 10, 11, 12, 13, 14, 15, 16, 17, 18, 19, 20, 21, 22, 23, 24, 25, 26, 27, 28, 29, 30, 31, 32, 33, 34, 35, 36, 37, 38, 39, 40, 41, 42, 43, 44, 45, 46, 47, 48, 49, 50, 51, 52, 53, 54, 55, 56, 57, 58, 59, 60, 61, 41, 42, 43, 44, 45, 46, 47, 48, 49, 50, 51, 52, 53, 54, 55, 56, 57, 58, 59, 60, 62])⟩ [(3, (some 3)), (0, (some 0)), (5, (some 5)), (4, (some 4)), (13, (some 13)), (6, (some 6)), (8, (some 8)), (1, (some 1)), (7, (some 7)), (9, (some 9)), (2, (some 2))] = some (s4, [.ask (.not (.lt (.iv 4) (.iv 2))), .ask (.not (.eq (.iv 1) (.il 0))), .call 83 [(.snoc (.snoc .emp (HM (.get (.vv 0) (.il 0)))) (.get (.vv 0) (.il 1))), (.ofI (.iv 1)), (.ofI (.iv 0))], .ask (FT (.mul (.iv 3) (.toI (.vv 6)))), .ask (IB (.iv 1) (.vv 5)), .ask (.le (.add (.len (.vv 1)) (.il 1)) (.il 8796093021696)), .ask (IB (.iv 1) (.vv 5)), .ask (IB (.iv 1) (.vv 5)), .ask (FT (.add (.iv 0) (.il 1)))]) := by kernel_rfl
theorem p8 : stretch K 43 [true] s4 s3 [] ⟨[(.iv 1), (.iv 0), (.len (.vv 3)), (.il 0), (.il 0)], [], [(.vv 0), (.vv 2), (.vv 3), (.vv 3), (.vv 3), (.vv 4)], (Z [0, 1, 2, 3, 4, 5, 6, 7, 8, 9, 10, 11, 12, 13, 14, 15, 16, 17, 18, 19, 20, 21, 22, 23, 24, 25, 26, 27, 28, 29, 30, 31, 32, 33, 34, 35, 36, 37, 38, 39, 40, 62, 63, 64, 65, 66, 67, 68, 69, 70, 71, 72, 73, 74, 75, 76, 77, 78, 79, 80, 81, 82, 82, 82])⟩ [(0, (some 0)), (3, (some 3)), (5, (some 5)), (4, (some 4)), (10, (some 13)), (6, (some 6)), (8, (some 8)), (1, (some 1)), (7, (some 7)), (9, (some 9)), (2, (some 2))] = some (s3, [.ask (.lt (.iv 1) (.len (.get (.get (.vv 0) (.il 0)) (.il 1)))), .ask (IB (.iv 0) (.vv 4)), .ask (IB (.iv 0) (.vv 4))]) := by kernel_rfl
theorem p9 : stretch K 30 [false] s4 s1 [] ⟨[(.add (.iv 0) (.il 1))], [], [(.vv 0), (.get (.set (.vv 4) (.iv 0) (.vv 2)) (.iv 0)), (.set (.vv 4) (.iv 0) (.vv 2))], [(q 0 0), (q 66 0), (q 67 0), (q 68 0), (q 69 0), (q 62 0), (q 63 0), (q 64 0), (q 65 0), (q 70 0), (q 71 0), (q 72 0), (q 73 0), (q 74 0), (q 75 0), (q 76 0), (q 77 0), (q 78 0), (q 79 0), (q 80 0), (q 81 0), (.elB 4 14 (.iv 0) 1 0)]⟩ [(8, (some 8)), (1, (some 1)), (3, (some 3)), (0, (some 0)), (5, (some 5)), (4, (some 4)), (6, (some 6)), (7, (some 7)), (9, (some 9)), (2, (some 2))] = some (s1, [.ask (.not (.lt (.iv 1) (.len (.get (.get (.vv 0) (.il 0)) (.il 1))))), .ask (IB (.iv 0) (.vv 4)), .ask (IB (.iv 0) (.vv 4)), .ask (FT (.add (.iv 0) (.il 1)))]) := by kernel_rfl
theorem b : sbegin prog 48 = some s0 := by kernel_rfl
end forward
end X
namespace X
open Go Go.Abs Go.Sym
namespace hForward
abbrev f : Nat := 15
noncomputable def K : Cfg := ⟨prog, pl, [], [47, 48], []⟩
noncomputable def s0 : SMach := ⟨⟨15, 19, (m (.agg [(.int .i64 (.toI (.get (.vv 0) (.il 0)))), (.pure 3 (.get (.vv 0) (.il 1)) (q 0 1)), (.pure 27 (.get (.vv 0) (.il 2)) (q 0 2)), (.pure 27 (.get (.vv 0) (.il 3)) (q 0 3))]) (l (.pure 3 (.vv 1) (q 1 0))) z z z), [.code (C 15 [])], [], .run, false, none⟩, [], ⟨0, 2, 2, z⟩⟩
theorem b : sbegin prog 15 = some s0 := by kernel_rfl
end hForward
end X
namespace X
open Go Go.Abs Go.Sym
namespace hBackward
abbrev f : Nat := 16
noncomputable def K : Cfg := ⟨prog, pl, [], [47, 49], []⟩
noncomputable def s0 : SMach := ⟨⟨16, 19, (m (.agg [(.int .i64 (.toI (.get (.vv 0) (.il 0)))), (.pure 3 (.get (.vv 0) (.il 1)) (q 0 1)), (.pure 27 (.get (.vv 0) (.il 2)) (q 0 2)), (.pure 27 (.get (.vv 0) (.il 3)) (q 0 3))]) (l (.pure 3 (.vv 1) (q 1 0))) z z z), [.code (C 16 [])], [], .run, false, none⟩, [], ⟨0, 2, 2, z⟩⟩
theorem b : sbegin prog 16 = some s0 := by kernel_rfl
end hBackward
end X
namespace X
open Go Go.Abs Go.Sym
namespace htotal
abbrev f : Nat := 67
noncomputable def K : Cfg := ⟨prog, pl, [], [], []⟩
noncomputable def s0 : SMach := ⟨⟨67, 17, (l (.pure 3 (.vv 0) (q 0 0))), [.code (C 67 [])], [], .run, false, none⟩, [], ⟨0, 1, 1, z⟩⟩
noncomputable def s1 : SMach := ⟨⟨67, 17, (n z (n (l (.pure 3 (.vv 0) (q 1 0))) z z z) (m (.int .i64 (.iv 0)) (l (.int .i64 (.len (.vv 0)))) z z z) (n (l (.int .i64 (.iv 1))) z z z)), [.code (C 67 [1, 1, 0, 1, 0, 0]), .inLoop (C 67 [1, 1, 0, 1, 0, 0]), .inBlock 0, .code (C 67 [1, 1, 1])], [], .run, false, none⟩, [], ⟨0, 2, 1, z⟩⟩
theorem p0 : stretch K 17 [] s0 s1 [] ⟨[(.il 0), (.il 0)], [], [(.vv 0)], (Z [0, 0])⟩ [] = some (s1, []) := by kernel_rfl
theorem p1 : stretch K 27 [true] s1 s1 [] ⟨[(.add (.iv 0) (.toI (.get (.vv 0) (.iv 1)))), (.add (.iv 1) (.il 1))], [], [(.vv 0)], (Z [0, 1])⟩ [] = some (s1, [.ask (.lt (.iv 1) (.len (.vv 0))), .ask (IB (.iv 1) (.vv 0)), .ask (FT (.add (.iv 0) (.toI (.get (.vv 0) (.iv 1))))), .ask (FT (.add (.iv 1) (.il 1)))]) := by kernel_rfl
theorem p2 : last K 67 13 [false] s1 = some ((.ofI (.iv 0)), [.ask (.not (.lt (.iv 1) (.len (.vv 0))))]) := by kernel_rfl
theorem b : sbegin prog 67 = some s0 := by kernel_rfl
end htotal
end X
namespace X
open Go Go.Abs Go.Sym
namespace hlast
abbrev f : Nat := 58
noncomputable def K : Cfg := ⟨prog, pl, [], [], []⟩
noncomputable def s0 : SMach := ⟨⟨58, 9, (l (.pure 27 (.vv 0) (q 0 0))), [.code (C 58 [])], [], .run, false, none⟩, [], ⟨0, 1, 1, z⟩⟩
theorem p0 : last K 58 15 [] s0 = some ((.get (.vv 0) (.sub (.len (.vv 0)) (.il 1))), [.ask (FT (.sub (.len (.vv 0)) (.il 1))), .ask (IB (.sub (.len (.vv 0)) (.il 1)) (.vv 0))]) := by kernel_rfl
theorem b : sbegin prog 58 = some s0 := by kernel_rfl
end hlast
end X
namespace X
open Go Go.Abs Go.Sym
namespace possible
abbrev f : Nat := 57
noncomputable def K : Cfg := ⟨prog, pl, [], [48, 67, 58], []⟩
noncomputable def s0 : SMach := ⟨⟨57, 12, (l (.agg [(.int .i64 (.toI (.get (.get (.vv 0) (.il 0)) (.il 0)))), (.pure 3 (.get (.get (.vv 0) (.il 0)) (.il 1)) (q 0 1)), (.pure 27 (.get (.get (.vv 0) (.il 0)) (.il 2)) (q 0 2)), (.pure 27 (.get (.get (.vv 0) (.il 0)) (.il 3)) (q 0 3)), (.pure 3 (.get (.vv 0) (.il 1)) (q 0 4))])), [.code (C 57 [])], [], .run, false, none⟩, [], ⟨0, 1, 1, z⟩⟩
theorem p0 : last K 57 27 [true] s0 = some ((.snoc (.snoc .emp .nil) (.ofI (.il 7))), [.call 48 [(.snoc (.snoc .emp (HM (.get (.vv 0) (.il 0)))) (.get (.vv 0) (.il 1)))], .call 58 [(.vv 1)], .call 67 [(.vv 2)], .ask (.eq (.toI (.vv 3)) (.il 0))]) := by kernel_rfl
theorem p1 : last K 57 29 [false] s0 = some ((.snoc (.snoc .emp (.vv 1)) (.ofI (.il 0))), [.call 48 [(.snoc (.snoc .emp (HM (.get (.vv 0) (.il 0)))) (.get (.vv 0) (.il 1)))], .call 58 [(.vv 1)], .call 67 [(.vv 2)], .ask (.not (.eq (.toI (.vv 3)) (.il 0)))]) := by kernel_rfl
theorem b : sbegin prog 57 = some s0 := by kernel_rfl
end possible
end X
namespace X
open Go Go.Abs Go.Sym
namespace hProb
abbrev f : Nat := 25
noncomputable def K : Cfg := ⟨prog, pl, [], [47, 48, 67, 58, 66], []⟩
noncomputable def e0 : E := .get (.get (.vv 2) (.il 0)) (.il 0)
noncomputable def s0 : SMach := ⟨⟨25, 39, (m (.agg [(.int .i64 (.toI (.get (.vv 0) (.il 0)))), (.pure 3 (.get (.vv 0) (.il 1)) (q 0 1)), (.pure 27 (.get (.vv 0) (.il 2)) (q 0 2)), (.pure 27 (.get (.vv 0) (.il 3)) (q 0 3))]) (l (.pure 3 (.vv 1) (q 1 0))) z z z), [.code (C 25 [])], [], .run, false, none⟩, [], ⟨0, 2, 2, z⟩⟩
noncomputable def s1 : SMach := ⟨⟨65, 17, (n (l (.yieldf 5)) (l (.addr 6 0)) z (l (.int .i64 (.iv 1)))), [.code (C 65 [1, 1, 0, 0]), .inLoop (C 65 [1, 1, 0, 0]), .inBlock 0], [], .run, false, none⟩, [⟨25, 39, (n z (n (l (.addr 2 0)) z z z) z (m (.addr 1 0) (l (.addr 3 0)) z z z)), [.inRangeFunc 5, .inBlock 0, .code (C 25 [1, 1, 1, 1, 1])], [⟨.collected 4, []⟩], .run, false, none⟩], ⟨7, 11, 3, (n (m (.cells [(.int .i64 (.il 0)), (.int .i64 (.il 0))]) (l (.loop ⟨.ready, none, 25, 39, (n z (n (l (.addr 2 0)) z z z) z (n (l (.addr 3 0)) z z z)), PA 25 [1, 1, 1, 1, 0, 1, 0], .skip, (C 25 [1, 1, 1, 1, 0, 1, 0, 1]), 4⟩)) z z z) (m (.cells [(.int .i64 (.toI (.get e0 (.il 0)))), (.pure 3 (.get e0 (.il 1)) (q 3 0)), (.pure 27 (.get e0 (.il 2)) (q 4 0)), (.pure 27 (.get e0 (.il 3)) (q 5 0)), (.pure 3 (.get (.get (.vv 2) (.il 0)) (.il 1)) (q 6 0))]) (l (.cells [(.int .i64 (.toI (.get e0 (.il 0)))), (.pure 3 (.get e0 (.il 1)) (q 7 0)), (.pure 27 (.get e0 (.il 2)) (q 8 0)), (.pure 27 (.get e0 (.il 3)) (q 9 0)), (.pure 3 (.get (.get (.vv 2) (.il 0)) (.il 1)) (q 10 0))])) z z z) (l (.cells [(.int .i64 (.iv 0))])) (l (.deferred (some []))))⟩⟩
theorem b : sbegin prog 25 = some s0 := by kernel_rfl
end hProb
end X
namespace X
open Go Go.Abs Go.Sym
namespace hFilter
abbrev f : Nat := 29
noncomputable def K : Cfg := ⟨prog, pl, [], [47, 57, 66], []⟩
noncomputable def e0 : E := .get (.get (.vv 2) (.il 0)) (.il 0)
noncomputable def s0 : SMach := ⟨⟨29, 40, (m (.agg [(.int .i64 (.toI (.get (.vv 0) (.il 0)))), (.pure 3 (.get (.vv 0) (.il 1)) (q 0 1)), (.pure 27 (.get (.vv 0) (.il 2)) (q 0 2)), (.pure 27 (.get (.vv 0) (.il 3)) (q 0 3))]) (l (.pure 3 (.vv 1) (q 1 0))) z z z), [.code (C 29 [])], [], .run, false, none⟩, [], ⟨0, 2, 2, z⟩⟩
noncomputable def s1 : SMach := ⟨⟨65, 17, (n (l (.yieldf 5)) (l (.addr 6 0)) z (l (.int .i64 (.iv 0)))), [.code (C 65 [1, 1, 0, 0]), .inLoop (C 65 [1, 1, 0, 0]), .inBlock 0], [], .run, false, none⟩, [⟨29, 40, (n (n z (l (.addr 3 0)) z z) z z (n (l (.addr 2 0)) z z z)), [.inRangeFunc 5, .inBlock 0, .code (C 29 [1, 1, 1, 1, 1, 1, 1])], [⟨.collected 4, []⟩], .run, false, none⟩], ⟨8, 9, 5, (n (n (l (.loop ⟨.ready, none, 29, 40, (n (n z (l (.addr 3 0)) z z) z z (n (l (.addr 2 0)) z z z)), PA 29 [1, 1, 1, 1, 1, 1, 0, 1, 0], (C 29 [1, 1, 1, 1, 1, 1, 0, 1, 0, 0]), (C 29 [1, 1, 1, 1, 1, 1, 0, 1, 0, 1]), 4⟩)) z z z) (m (.cells [(.pure 27 (.get (.vv 3) (.il 0)) (q 4 0))]) (l (.cells [(.int .i64 (.toI (.get e0 (.il 0)))), (.pure 3 (.get e0 (.il 1)) (q 5 0)), (.pure 27 (.get e0 (.il 2)) (q 6 0)), (.pure 27 (.get e0 (.il 3)) (q 7 0)), (.pure 3 (.get (.get (.vv 2) (.il 0)) (.il 1)) (q 8 0))])) z z z) (m (.cells [(.view 7)]) (l (.arr 46 (.vv 4) 0)) z z z) (l (.deferred (some []))))⟩⟩
noncomputable def s2 : SMach := ⟨⟨59, 45, (m (.pure 3 (.vv 4) (q 9 0)) (m (.func 60 [] []) (l (.int .i64 (.iv 0))) z (l (.pure 3 (.vv 4) (q 10 0))) z) (n z z (l (.int .i64 (.iv 2))) z) (n z z (l (.int .i64 (.iv 1))) z) z), [.code (C 59 [1, 1, 0, 1, 0, 0]), .inLoop (C 59 [1, 1, 0, 1, 0, 0]), .inBlock 0, .code (C 59 [1, 1, 1])], [], .run, false, none⟩, [⟨29, 40, (n (n z (l (.addr 3 0)) z (n (l (.int .i64 (.iv 3))) z z z)) (n z (l (.int .i64 (.iv 3))) z z) (n z z (n (l (.view 7)) z z z) (n (l (.pure 3 (.vv 4) (q 13 0))) z z z)) (n (l (.addr 2 0)) z (n (l (.pure 27 (.get (.vv 3) (.il 0)) (q 12 0))) z z z) z)), [.dreg (O 29 [1, 1, 1, 1, 1, 1, 0, 1, 0, 1, 0]) [(5, [0]), (6, []), (7, []), (8, [])], .inBlock 1], [], .run, false, (some 5)⟩, ⟨65, 17, (n (l (.yieldf 5)) (m (.addr 6 0) z (l (.bool (.bl true))) z z) (n z (l (.yieldf 5)) z z) (m (.int .i64 (.iv 3)) z (l (.int .i64 (.iv 3))) z z)), [R 65 [1, 1, 0, 0, 0, 0] 8, .code (C 65 [1, 1, 0, 0, 0, 1]), .code (C 65 [1, 1, 0, 0, 1]), .inLoop (C 65 [1, 1, 0, 0]), .inBlock 0], [], .run, false, none⟩, ⟨29, 40, (n (n z (l (.addr 3 0)) z z) z z (n (l (.addr 2 0)) z z z)), [.inRangeFunc 5, .inBlock 0, .code (C 29 [1, 1, 1, 1, 1, 1, 1])], [⟨.collected 4, []⟩], .run, false, none⟩], ⟨8, 18, 6, (n (n (l (.loop ⟨.busy, none, 29, 40, (n (n z (l (.addr 3 0)) z z) z z (n (l (.addr 2 0)) z z z)), PA 29 [1, 1, 1, 1, 1, 1, 0, 1, 0], (C 29 [1, 1, 1, 1, 1, 1, 0, 1, 0, 0]), (C 29 [1, 1, 1, 1, 1, 1, 0, 1, 0, 1]), 4⟩)) z z z) (m (.cells [(.pure 27 (.get (.vv 3) (.il 0)) (q 11 0))]) (l (.cells [(.int .i64 (.toI (.get e0 (.il 0)))), (.pure 3 (.get e0 (.il 1)) (q 14 0)), (.pure 27 (.get e0 (.il 2)) (q 15 0)), (.pure 27 (.get e0 (.il 3)) (q 16 0)), (.pure 3 (.get (.get (.vv 2) (.il 0)) (.il 1)) (q 17 0))])) z z z) (m (.cells [(.view 7)]) (l (.arr 46 (.vv 5) 0)) z z z) (l (.deferred (some []))))⟩⟩
noncomputable def s3 : SMach := ⟨⟨59, 45, (n (m (.func 60 [] []) (l (.int .i64 (.iv 0))) (n (l (.pure 3 (.vv 5) (q 18 0))) z z z) z z) (n z (n (l (.int .i64 (.iv 2))) z z z) z z) (n z (n (l (.int .i64 (.iv 1))) z z z) z z) (n (l (.view 7)) z z z)), [.code (C 59 [1, 1, 1, 1, 0, 1, 0, 0]), .inLoop (C 59 [1, 1, 1, 1, 0, 1, 0, 0]), .inBlock 2, .code (C 59 [1, 1, 1, 1, 1])], [], .run, false, none⟩, [⟨29, 40, (n (n z (l (.addr 3 0)) z (n (l (.int .i64 (.iv 3))) z z z)) (n z (l (.int .i64 (.iv 3))) z z) (n z z (n (l (.view 8)) z z z) (n (l (.pure 3 (.vv 5) (q 21 0))) z z z)) (n (l (.addr 2 0)) z (n (l (.pure 27 (.get (.vv 3) (.il 0)) (q 20 0))) z z z) z)), [.dreg (O 29 [1, 1, 1, 1, 1, 1, 0, 1, 0, 1, 0]) [(5, [0]), (6, []), (7, []), (8, [])], .inBlock 1], [], .run, false, (some 5)⟩, ⟨65, 17, (n (l (.yieldf 5)) (m (.addr 6 0) z (l (.bool (.bl true))) z z) (n z (l (.yieldf 5)) z z) (m (.int .i64 (.iv 3)) z (l (.int .i64 (.iv 3))) z z)), [R 65 [1, 1, 0, 0, 0, 0] 8, .code (C 65 [1, 1, 0, 0, 0, 1]), .code (C 65 [1, 1, 0, 0, 1]), .inLoop (C 65 [1, 1, 0, 0]), .inBlock 0], [], .run, false, none⟩, ⟨29, 40, (n (n z (l (.addr 3 0)) z z) z z (n (l (.addr 2 0)) z z z)), [.inRangeFunc 5, .inBlock 0, .code (C 29 [1, 1, 1, 1, 1, 1, 1])], [⟨.collected 4, []⟩], .run, false, none⟩], ⟨9, 26, 7, (n (n (l (.loop ⟨.busy, none, 29, 40, (n (n z (l (.addr 3 0)) z z) z z (n (l (.addr 2 0)) z z z)), PA 29 [1, 1, 1, 1, 1, 1, 0, 1, 0], (C 29 [1, 1, 1, 1, 1, 1, 0, 1, 0, 0]), (C 29 [1, 1, 1, 1, 1, 1, 0, 1, 0, 1]), 4⟩)) z z z) (m (.cells [(.pure 27 (.get (.vv 3) (.il 0)) (q 19 0))]) (l (.cells [(.int .i64 (.toI (.get e0 (.il 0)))), (.pure 3 (.get e0 (.il 1)) (q 22 0)), (.pure 27 (.get e0 (.il 2)) (q 23 0)), (.pure 27 (.get e0 (.il 3)) (q 24 0)), (.pure 3 (.get (.get (.vv 2) (.il 0)) (.il 1)) (q 25 0))])) z z z) (m (.cells [(.view 8)]) (l (.arr 53 (.vv 4) 0)) z z z) (m (.deferred (some [])) (l (.arr 46 (.vv 6) 0)) z z z))⟩⟩
theorem b : sbegin prog 29 = some s0 := by kernel_rfl
end hFilter
end X
namespace X
open Go Go.Abs Go.Sym
namespace hSmooth
abbrev f : Nat := 31
noncomputable def K : Cfg := ⟨prog, pl, [], [47, 57, 49, 66], []⟩
noncomputable def e0 : E := .get (.get (.vv 2) (.il 0)) (.il 0)
noncomputable def e1 : E := .get (.get (.vv 2) (.il 0)) (.il 1)
noncomputable def e2 : SV := .int .i64 (.toI (.get e0 (.il 0)))
noncomputable def s0 : SMach := ⟨⟨31, 72, (m (.agg [(.int .i64 (.toI (.get (.vv 0) (.il 0)))), (.pure 3 (.get (.vv 0) (.il 1)) (q 0 1)), (.pure 27 (.get (.vv 0) (.il 2)) (q 0 2)), (.pure 27 (.get (.vv 0) (.il 3)) (q 0 3))]) (l (.pure 3 (.vv 1) (q 1 0))) z z z), [.code (C 31 [])], [], .run, false, none⟩, [], ⟨0, 2, 2, z⟩⟩
noncomputable def s1 : SMach := ⟨⟨65, 17, (n (l (.yieldf 6)) (l (.addr 7 0)) z (l (.int .i64 (.iv 0)))), [.code (C 65 [1, 1, 0, 0]), .inLoop (C 65 [1, 1, 0, 0]), .inBlock 0], [], .run, false, none⟩, [⟨31, 72, (n (n z (l (.addr 3 0)) z z) (n z (l (.addr 4 0)) z z) z (n (l (.addr 2 0)) z z z)), [.inRangeFunc 6, .inBlock 0, .code (C 31 [1, 1, 1, 1, 1, 1, 1, 1])], [⟨.collected 5, []⟩], .run, false, none⟩], ⟨9, 11, 6, (n (n (l (.deferred (some []))) z z z) (m (.cells [(.pure 27 (.get (.vv 3) (.il 0)) (q 5 0))]) (l (.loop ⟨.ready, none, 31, 72, (n (n z (l (.addr 3 0)) z z) (n z (l (.addr 4 0)) z z) z (n (l (.addr 2 0)) z z z)), PA 31 [1, 1, 1, 1, 1, 1, 1, 0, 1, 0], (C 31 [1, 1, 1, 1, 1, 1, 1, 0, 1, 0, 0]), (C 31 [1, 1, 1, 1, 1, 1, 1, 0, 1, 0, 1]), 5⟩)) z z z) (m (.cells [(.pure 27 (.vv 4) (q 6 0))]) (l (.cells [e2, (.pure 3 (.get e0 (.il 1)) (q 7 0)), (.pure 27 (.get e0 (.il 2)) (q 8 0)), (.pure 27 (.get e0 (.il 3)) (q 9 0)), (.pure 3 e1 (q 10 0))])) z z z) (m (.cells [(.view 8)]) (l (.arr 46 (.vv 5) 0)) z z z))⟩⟩
noncomputable def s2 : SMach := ⟨⟨31, 72, (n (n z (l (.addr 3 0)) z z) (n z (l (.addr 4 0)) z z) (n z (m (.int .i64 (.iv 1)) z (l (.int .i64 (.iv 2))) z z) z z) (n (l (.addr 2 0)) (m (.view 8) z (l (.int .i64 (.iv 0))) z z) z z)), [.code (C 31 [1, 1, 1, 1, 1, 1, 1, 0, 1, 0, 1, 0, 1, 0, 1, 0, 0]), .inLoop (C 31 [1, 1, 1, 1, 1, 1, 1, 0, 1, 0, 1, 0, 1, 0, 1, 0, 0]), .inBlock 2, .code (C 31 [1, 1, 1, 1, 1, 1, 1, 0, 1, 0, 1, 0, 1, 1]), .inBlock 1], [], .run, false, (some 6)⟩, [⟨65, 17, (n (l (.yieldf 6)) (m (.addr 7 0) z (l (.bool (.bl true))) z z) (n z (l (.yieldf 6)) z z) (m (.int .i64 (.iv 1)) z (l (.int .i64 (.iv 1))) z z)), [R 65 [1, 1, 0, 0, 0, 0] 8, .code (C 65 [1, 1, 0, 0, 0, 1]), .code (C 65 [1, 1, 0, 0, 1]), .inLoop (C 65 [1, 1, 0, 0]), .inBlock 0], [], .run, false, none⟩, ⟨31, 72, (n (n z (l (.addr 3 0)) z z) (n z (l (.addr 4 0)) z z) z (n (l (.addr 2 0)) z z z)), [.inRangeFunc 6, .inBlock 0, .code (C 31 [1, 1, 1, 1, 1, 1, 1, 1])], [⟨.collected 5, []⟩], .run, false, none⟩], ⟨10, 17, 7, (n (n (l (.deferred (some []))) (l (.arr 46 (.vv 6) 0)) z z) (m (.cells [(.pure 27 (.get (.vv 3) (.il 0)) (q 11 0))]) (l (.loop ⟨.busy, none, 31, 72, (n (n z (l (.addr 3 0)) z z) (n z (l (.addr 4 0)) z z) z (n (l (.addr 2 0)) z z z)), PA 31 [1, 1, 1, 1, 1, 1, 1, 0, 1, 0], (C 31 [1, 1, 1, 1, 1, 1, 1, 0, 1, 0, 0]), (C 31 [1, 1, 1, 1, 1, 1, 1, 0, 1, 0, 1]), 5⟩)) z z z) (m (.cells [(.pure 27 (.vv 4) (q 12 0))]) (l (.cells [e2, (.pure 3 (.get e0 (.il 1)) (q 13 0)), (.pure 27 (.get e0 (.il 2)) (q 14 0)), (.pure 27 (.get e0 (.il 3)) (q 15 0)), (.pure 3 e1 (q 16 0))])) z z z) (m (.cells [(.view 9)]) (l (.arr 103 (.vv 5) 0)) z z z))⟩⟩
noncomputable def s3 : SMach := ⟨⟨70, 45, (m (.view 8) (m (.func 71 [] []) (l (.int .i64 (.iv 1))) z (l (.view 8)) z) (n z z (l (.int .i64 (.iv 0))) z) (n z z (l (.int .i64 (.iv 2))) z) z), [.code (C 70 [1, 1, 0, 1, 0, 0]), .inLoop (C 70 [1, 1, 0, 1, 0, 0]), .inBlock 0, .code (C 70 [1, 1, 1])], [], .run, false, none⟩, [⟨31, 72, (n z (n z (l (.addr 4 0)) z (n z z (l (.view 9)) z)) (n z z z (n z z (l (.view 8)) z)) (n z (l (.view 8)) z z)), [.dreg (O 31 [1, 1, 1, 1, 1, 1, 1, 0, 1, 0, 1, 0, 1, 1]) [(2, [0]), (3, []), (4, []), (5, [])], .inBlock 1], [], .run, false, (some 6)⟩, ⟨65, 17, (n (l (.yieldf 6)) (m (.addr 7 0) z (l (.bool (.bl true))) z z) (n z (l (.yieldf 6)) z z) (m (.int .i64 (.iv 3)) z (l (.int .i64 (.iv 3))) z z)), [R 65 [1, 1, 0, 0, 0, 0] 8, .code (C 65 [1, 1, 0, 0, 0, 1]), .code (C 65 [1, 1, 0, 0, 1]), .inLoop (C 65 [1, 1, 0, 0]), .inBlock 0], [], .run, false, none⟩, ⟨31, 72, (n (n z (l (.addr 3 0)) z z) (n z (l (.addr 4 0)) z z) z (n (l (.addr 2 0)) z z z)), [.inRangeFunc 6, .inBlock 0, .code (C 31 [1, 1, 1, 1, 1, 1, 1, 1])], [⟨.collected 5, []⟩], .run, false, none⟩], ⟨10, 23, 7, (n (n (l (.deferred (some []))) (l (.arr 46 (.vv 6) 0)) z z) (m (.cells [(.pure 27 (.get (.vv 3) (.il 0)) (q 17 0))]) (l (.loop ⟨.busy, none, 31, 72, (n (n z (l (.addr 3 0)) z z) (n z (l (.addr 4 0)) z z) z (n (l (.addr 2 0)) z z z)), PA 31 [1, 1, 1, 1, 1, 1, 1, 0, 1, 0], (C 31 [1, 1, 1, 1, 1, 1, 1, 0, 1, 0, 0]), (C 31 [1, 1, 1, 1, 1, 1, 1, 0, 1, 0, 1]), 5⟩)) z z z) (m (.cells [(.pure 27 (.vv 4) (q 18 0))]) (l (.cells [e2, (.pure 3 (.get e0 (.il 1)) (q 19 0)), (.pure 27 (.get e0 (.il 2)) (q 20 0)), (.pure 27 (.get e0 (.il 3)) (q 21 0)), (.pure 3 e1 (q 22 0))])) z z z) (m (.cells [(.view 9)]) (l (.arr 103 (.vv 5) 0)) z z z))⟩⟩
noncomputable def s4 : SMach := ⟨⟨70, 45, (n (m (.func 71 [] []) (l (.int .i64 (.iv 1))) (n (l (.view 8)) z z z) z z) (n z (n (l (.int .i64 (.len (.vv 5)))) z z z) z z) (n z (n (l (.int .i64 (.iv 2))) z z z) z z) (n (l (.view 9)) z z z)), [.code (C 70 [1, 1, 1, 1, 0, 1, 0, 0]), .inLoop (C 70 [1, 1, 1, 1, 0, 1, 0, 0]), .inBlock 2, .code (C 70 [1, 1, 1, 1, 1])], [], .run, false, none⟩, [⟨31, 72, (n z (n z (l (.addr 4 0)) z (n z z (l (.view 10)) z)) (n z z z (n z z (l (.view 8)) z)) (n z (l (.view 8)) z z)), [.dreg (O 31 [1, 1, 1, 1, 1, 1, 1, 0, 1, 0, 1, 0, 1, 1]) [(2, [0]), (3, []), (4, []), (5, [])], .inBlock 1], [], .run, false, (some 6)⟩, ⟨65, 17, (n (l (.yieldf 6)) (m (.addr 7 0) z (l (.bool (.bl true))) z z) (n z (l (.yieldf 6)) z z) (m (.int .i64 (.iv 3)) z (l (.int .i64 (.iv 3))) z z)), [R 65 [1, 1, 0, 0, 0, 0] 8, .code (C 65 [1, 1, 0, 0, 0, 1]), .code (C 65 [1, 1, 0, 0, 1]), .inLoop (C 65 [1, 1, 0, 0]), .inBlock 0], [], .run, false, none⟩, ⟨31, 72, (n (n z (l (.addr 3 0)) z z) (n z (l (.addr 4 0)) z z) z (n (l (.addr 2 0)) z z z)), [.inRangeFunc 6, .inBlock 0, .code (C 31 [1, 1, 1, 1, 1, 1, 1, 1])], [⟨.collected 5, []⟩], .run, false, none⟩], ⟨11, 29, 8, (n (n (l (.deferred (some []))) (l (.arr 53 (.vv 6) 0)) z z) (m (.cells [(.pure 27 (.get (.vv 3) (.il 0)) (q 23 0))]) (l (.loop ⟨.busy, none, 31, 72, (n (n z (l (.addr 3 0)) z z) (n z (l (.addr 4 0)) z z) z (n (l (.addr 2 0)) z z z)), PA 31 [1, 1, 1, 1, 1, 1, 1, 0, 1, 0], (C 31 [1, 1, 1, 1, 1, 1, 1, 0, 1, 0, 0]), (C 31 [1, 1, 1, 1, 1, 1, 1, 0, 1, 0, 1]), 5⟩)) (l (.arr 46 (.vv 7) 0)) z z) (m (.cells [(.pure 27 (.vv 4) (q 24 0))]) (l (.cells [e2, (.pure 3 (.get e0 (.il 1)) (q 25 0)), (.pure 27 (.get e0 (.il 2)) (q 26 0)), (.pure 27 (.get e0 (.il 3)) (q 27 0)), (.pure 3 e1 (q 28 0))])) z z z) (m (.cells [(.view 10)]) (l (.arr 103 (.vv 5) 0)) z z z))⟩⟩
theorem b : sbegin prog 31 = some s0 := by kernel_rfl
end hSmooth
end X
namespace X
open Go Go.Abs Go.Sym
namespace hPredict
abbrev f : Nat := 21
noncomputable def K : Cfg := ⟨prog, pl, [], [47, 57, 58, 66], []⟩
noncomputable def e0 : E := .get (.get (.vv 3) (.il 0)) (.il 0)
noncomputable def s0 : SMach := ⟨⟨21, 85, (m (.agg [(.int .i64 (.toI (.get (.vv 0) (.il 0)))), (.pure 3 (.get (.vv 0) (.il 1)) (q 0 1)), (.pure 27 (.get (.vv 0) (.il 2)) (q 0 2)), (.pure 27 (.get (.vv 0) (.il 3)) (q 0 3))]) (l (.pure 3 (.vv 1) (q 1 0))) (l (.int .i64 (.toI (.vv 2)))) z z), [.code (C 21 [])], [], .run, false, none⟩, [], ⟨0, 3, 3, z⟩⟩
noncomputable def s1 : SMach := ⟨⟨21, 85, (n (n z z (n z (l (.int .i64 (.toI (.vv 2)))) z z) z) (n z z (n z (l (.int .i64 (.iv 0))) z z) z) (n z (l (.pure 3 (.vv 6) (q 10 0))) z z) (n (l (.addr 1 0)) z z z)), [.code (C 21 [1, 1, 1, 1, 1, 1, 1, 0, 1, 0, 0]), .inLoop (C 21 [1, 1, 1, 1, 1, 1, 1, 0, 1, 0, 0]), .inBlock 0, .code (C 21 [1, 1, 1, 1, 1, 1, 1, 1])], [], .run, false, none⟩, [], ⟨2, 11, 7, (n (l (.cells [(.int .i64 (.toI (.get e0 (.il 0)))), (.pure 3 (.get e0 (.il 1)) (q 6 0)), (.pure 27 (.get e0 (.il 2)) (q 7 0)), (.pure 27 (.get e0 (.il 3)) (q 8 0)), (.pure 3 (.get (.get (.vv 3) (.il 0)) (.il 1)) (q 9 0))])) z z z)⟩⟩
noncomputable def s2 : SMach := ⟨⟨21, 85, (n (n (n z z (l (.int .i64 (.iv 0))) z) z (n z (l (.int .i64 (.toI (.vv 2)))) z z) z) (n z z (n z (l (.int .i64 (.iv 1))) z z) z) (n z z z (n z (l (.pure 3 (.vv 7) (q 15 0))) z z)) (n (l (.addr 1 0)) (l (.view 2)) z (n z (l (.int .i64 (.iv 2))) z z))), [.code (C 21 [1, 1, 1, 1, 1, 1, 1, 0, 1, 0, 0, 1, 1, 0, 0, 1, 0, 1, 0, 0]), .inLoop (C 21 [1, 1, 1, 1, 1, 1, 1, 0, 1, 0, 0, 1, 1, 0, 0, 1, 0, 1, 0, 0]), .inBlock 2, .code (C 21 [1, 1, 1, 1, 1, 1, 1, 0, 1, 0, 0, 1, 1, 0, 0, 1, 1]), .inBlock 1, .code (C 21 [1, 1, 1, 1, 1, 1, 1, 0, 1, 0, 0, 1, 1, 1]), .inLoop (C 21 [1, 1, 1, 1, 1, 1, 1, 0, 1, 0, 0]), .inBlock 0, .code (C 21 [1, 1, 1, 1, 1, 1, 1, 1])], [], .run, false, none⟩, [], ⟨3, 16, 8, (n (l (.cells [(.int .i64 (.toI (.get e0 (.il 0)))), (.pure 3 (.get e0 (.il 1)) (q 11 0)), (.pure 27 (.get e0 (.il 2)) (q 12 0)), (.pure 27 (.get e0 (.il 3)) (q 13 0)), (.pure 3 (.get (.get (.vv 3) (.il 0)) (.il 1)) (q 14 0))])) (l (.arr 3 (.vv 6) 0)) z z)⟩⟩
noncomputable def s3 : SMach := ⟨⟨59, 45, (m (.pure 3 (.vv 6) (q 11 0)) (m (.func 60 [] []) (l (.int .i64 (.iv 0))) z (l (.pure 3 (.vv 6) (q 12 0))) z) (n z z (l (.int .i64 (.iv 2))) z) (n z z (l (.int .i64 (.iv 1))) z) z), [.code (C 59 [1, 1, 0, 1, 0, 0]), .inLoop (C 59 [1, 1, 0, 1, 0, 0]), .inBlock 0, .code (C 59 [1, 1, 1])], [], .run, false, none⟩, [⟨21, 85, (n z z (n z z z (n z z z (l (.pure 3 (.vv 6) (q 13 0))))) z), [R 21 [1, 1, 1, 1, 1, 1, 1, 1, 0] 1, .code .ret], [], .run, false, none⟩], ⟨2, 14, 7, z⟩⟩
noncomputable def s4 : SMach := ⟨⟨21, 85, (n (n (n z z (l (.int .i64 (.iv 4))) z) z (n z (l (.int .i64 (.toI (.vv 2)))) z z) (n z z (l (.int .i64 (.iv 0))) z)) (n z z (m (.int .i64 (.iv 1)) z (l (.int .i64 (.iv 2))) z z) z) (n z z (n z z (l (.pure 3 (.vv 8) (q 21 0))) z) (n z (l (.pure 3 (.vv 7) (q 20 0))) z z)) (n (l (.addr 1 0)) (l (.view 2)) (n z z (l (.int .i64 (.iv 5))) z) (n z (l (.int .i64 (.iv 3))) z z))), [.code (C 21 [1, 1, 1, 1, 1, 1, 1, 0, 1, 0, 0, 1, 1, 0, 0, 1, 0, 1, 0, 0, 1, 1, 0, 0, 1, 1, 0, 0]), .inLoop (C 21 [1, 1, 1, 1, 1, 1, 1, 0, 1, 0, 0, 1, 1, 0, 0, 1, 0, 1, 0, 0, 1, 1, 0, 0, 1, 1, 0, 0]), .inBlock 4, .inBlock 3, .code (C 21 [1, 1, 1, 1, 1, 1, 1, 0, 1, 0, 0, 1, 1, 0, 0, 1, 0, 1, 0, 0, 1, 1, 1]), .inLoop (C 21 [1, 1, 1, 1, 1, 1, 1, 0, 1, 0, 0, 1, 1, 0, 0, 1, 0, 1, 0, 0]), .inBlock 2, .code (C 21 [1, 1, 1, 1, 1, 1, 1, 0, 1, 0, 0, 1, 1, 0, 0, 1, 1]), .inBlock 1, .code (C 21 [1, 1, 1, 1, 1, 1, 1, 0, 1, 0, 0, 1, 1, 1]), .inLoop (C 21 [1, 1, 1, 1, 1, 1, 1, 0, 1, 0, 0]), .inBlock 0, .code (C 21 [1, 1, 1, 1, 1, 1, 1, 1])], [], .run, false, none⟩, [], ⟨3, 22, 9, (n (l (.cells [(.int .i64 (.toI (.get e0 (.il 0)))), (.pure 3 (.get e0 (.il 1)) (q 16 0)), (.pure 27 (.get e0 (.il 2)) (q 17 0)), (.pure 27 (.get e0 (.il 3)) (q 18 0)), (.pure 3 (.get (.get (.vv 3) (.il 0)) (.il 1)) (q 19 0))])) (l (.arr 3 (.vv 6) 0)) z z)⟩⟩
noncomputable def s5 : SMach := ⟨⟨59, 45, (n (m (.func 60 [] []) (l (.int .i64 (.iv 0))) (n (l (.pure 3 (.vv 6) (q 14 0))) z z z) z z) (n z (n (l (.int .i64 (.iv 1))) z z z) z z) (n z (n (l (.int .i64 (.iv 2))) z z z) z z) (n (l (.view 2)) z z z)), [.code (C 59 [1, 1, 1, 1, 0, 1, 0, 0]), .inLoop (C 59 [1, 1, 1, 1, 0, 1, 0, 0]), .inBlock 2, .code (C 59 [1, 1, 1, 1, 1])], [], .run, false, none⟩, [⟨21, 85, (n z z (n z z z (n z z z (l (.pure 3 (.vv 6) (q 15 0))))) z), [R 21 [1, 1, 1, 1, 1, 1, 1, 1, 0] 1, .code .ret], [], .run, false, none⟩], ⟨3, 16, 8, (n z (l (.arr 53 (.vv 7) 0)) z z)⟩⟩
theorem p0 : last K 21 32 [true] s0 = some ((.snoc (.snoc .emp .nil) (.ofI (.toI (.get (.vv 3) (.il 1))))), [.call 47 [(HM (.vv 0)), (.vv 1)], .ask (.not (.eq (.toI (.get (.vv 3) (.il 1))) (.il 0)))]) := by kernel_rfl
theorem p1 : last K 21 46 [false, true] s0 = some ((.snoc (.snoc .emp .nil) (.ofI (.il 2))), [.call 47 [(HM (.vv 0)), (.vv 1)], .ask (.not (.not (.eq (.toI (.get (.vv 3) (.il 1))) (.il 0)))), .ask (.lt (.toI (.vv 2)) (.il 0))]) := by kernel_rfl
theorem p2 : last K 21 46 [false, false, true] s0 = some ((.snoc (.snoc .emp .nil) (.ofI (.il 2))), [.call 47 [(HM (.vv 0)), (.vv 1)], .ask (.not (.not (.eq (.toI (.get (.vv 3) (.il 1))) (.il 0)))), .ask (.not (.lt (.toI (.vv 2)) (.il 0))), .ask (FT (.sub (.il 8) (.len (.vv 1)))), .ask (.lt (.sub (.il 8) (.len (.vv 1))) (.toI (.vv 2)))]) := by kernel_rfl
theorem p3 : last K 21 65 [false, false, false, true] s0 = some ((.snoc (.snoc .emp .nil) (.ofI (.toI (.get (.vv 4) (.il 1))))), [.call 47 [(HM (.vv 0)), (.vv 1)], .ask (.not (.not (.eq (.toI (.get (.vv 3) (.il 1))) (.il 0)))), .ask (.not (.lt (.toI (.vv 2)) (.il 0))), .ask (FT (.sub (.il 8) (.len (.vv 1)))), .ask (.not (.lt (.sub (.il 8) (.len (.vv 1))) (.toI (.vv 2)))), .call 57 [(.snoc (.snoc .emp (HM (.get (.get (.vv 3) (.il 0)) (.il 0)))) (.get (.get (.vv 3) (.il 0)) (.il 1)))], .ask (.not (.eq (.toI (.get (.vv 4) (.il 1))) (.il 0)))]) := by kernel_rfl
theorem p4 : stretch K 73 [false, false, false, false] s0 s1 [] ⟨[(.il 0)], [], [(.vv 0), (.vv 1), (.vv 2), (.vv 3), (.vv 4), (.vv 5), (.vv 5)], [(q 0 0), (q 1 0), (q 2 0), (q 3 0), (q 4 0), (q 5 0), (q 3 1), (q 3 2), (q 3 3), (q 3 4), (q 5 0)]⟩ [(1, (some 1))] = some (s1, [.call 47 [(HM (.vv 0)), (.vv 1)], .ask (.not (.not (.eq (.toI (.get (.vv 3) (.il 1))) (.il 0)))), .ask (.not (.lt (.toI (.vv 2)) (.il 0))), .ask (FT (.sub (.il 8) (.len (.vv 1)))), .ask (.not (.lt (.sub (.il 8) (.len (.vv 1))) (.toI (.vv 2)))), .call 57 [(.snoc (.snoc .emp (HM (.get (.get (.vv 3) (.il 0)) (.il 0)))) (.get (.get (.vv 3) (.il 0)) (.il 1)))], .ask (.not (.not (.eq (.toI (.get (.vv 4) (.il 1))) (.il 0)))), .call 58 [(.get (.vv 4) (.il 0))]]) := by kernel_rfl
theorem p5 : stretch K 25 [true] s1 s2 [] ⟨[(.il 0), (.iv 0), (.len (.vv 6))], [], [(.vv 0), (.vv 1), (.vv 2), (.vv 3), (.vv 4), (.vv 5), (.rep (.len (.vv 6)) (.ofI (.il 0))), (.vv 6)], (Z [0, 1, 2, 3, 4, 5, 6, 7, 8, 9, 10, 6, 7, 8, 9, 10])⟩ [(1, (some 1)), (2, (some 2))] = some (s2, [.ask (.lt (.iv 0) (.toI (.vv 2))), .ask (.and (.le (.il 0) (.len (.vv 6))) (.le (.len (.vv 6)) (.il 17592186044416)))]) := by kernel_rfl
theorem p6 : stretch K 28 [false] s1 s3 [] ⟨[(.il 0), (.il 0), (.len (.vv 6))], [], [(.vv 0), (.vv 1), (.vv 2), (.vv 3), (.vv 4), (.vv 5), (.vv 6)], (Z [0, 1, 2, 3, 4, 5, 6, 7, 8, 9, 10, 10, 10, 10])⟩ [] = some (s3, [.ask (.not (.lt (.iv 0) (.toI (.vv 2))))]) := by kernel_rfl
theorem p7 : stretch K 30 [true] s2 s4 [] ⟨[(.il 0), (.toI (.get (.vv 7) (.iv 0))), (.iv 1), (.iv 2), (.iv 0), (.len (.get (.get (.get (.get (.vv 3) (.il 0)) (.il 0)) (.il 2)) (.iv 0)))], [], [(.vv 0), (.vv 1), (.vv 2), (.vv 3), (.vv 4), (.vv 5), (.vv 6), (.vv 7), (.get (.get (.get (.get (.vv 3) (.il 0)) (.il 0)) (.il 2)) (.iv 0))], [(q 0 0), (q 1 0), (q 2 0), (q 3 0), (q 4 0), (q 5 0), (q 6 0), (q 7 0), (q 8 0), (q 9 0), (q 10 0), (q 11 0), (q 12 0), (q 13 0), (q 14 0), (q 15 0), (q 11 0), (q 12 0), (q 13 0), (q 14 0), (q 15 0), (.el (q 12 0) (.iv 0) 1 0)]⟩ [(1, (some 1)), (2, (some 2))] = some (s4, [.ask (.lt (.iv 0) (.iv 2)), .ask (IB (.iv 0) (.vv 7)), .ask (IB (.iv 0) (.get (.get (.get (.vv 3) (.il 0)) (.il 0)) (.il 2)))]) := by kernel_rfl
theorem p8 : stretch K 17 [false] s2 s1 [2] ⟨[(.add (.iv 1) (.il 1))], [], [(.vv 0), (.vv 1), (.vv 2), (.vv 3), (.vv 4), (.vv 5), (.vv 6)], (Z [0, 1, 2, 3, 4, 5, 11, 12, 13, 14, 16])⟩ [(1, (some 1))] = some (s1, [.ask (.not (.lt (.iv 0) (.iv 2))), .ask (FT (.add (.iv 1) (.il 1)))]) := by kernel_rfl
theorem p9 : stretch K 40 [true] s3 s3 [] ⟨[(.add (.iv 0) (.toI (.get (.vv 6) (.iv 1)))), (.add (.iv 1) (.il 1)), (.iv 2)], [], [(.vv 0), (.vv 1), (.vv 2), (.vv 3), (.vv 4), (.vv 5), (.vv 6)], (Z [0, 1, 2, 3, 4, 5, 6, 7, 8, 9, 10, 11, 12, 13])⟩ [] = some (s3, [.ask (.lt (.iv 1) (.iv 2)), .ask (IB (.iv 1) (.vv 6)), .ask (FT (.add (.iv 0) (.toI (.get (.vv 6) (.iv 1))))), .ask (FT (.add (.iv 1) (.il 1)))]) := by kernel_rfl
theorem p10 : stretch K 20 [false] s3 s5 [] ⟨[(.iv 0), (.len (.vv 6)), (.il 0)], [], [(.vv 0), (.vv 1), (.vv 2), (.vv 3), (.vv 4), (.vv 5), (.vv 6), .nil], (Z [0, 1, 2, 3, 4, 5, 6, 7, 8, 9, 10, 11, 12, 13, 11, 13])⟩ [(2, none)] = some (s5, [.ask (.not (.lt (.iv 1) (.iv 2)))]) := by kernel_rfl
theorem p11 : stretch K 35 [true] s4 s4 [] ⟨[(.add (.iv 0) (.il 1)), (.iv 1), (.iv 2), (.iv 3), (.iv 4), (.iv 5)], [], [(.vv 0), (.vv 1), (.vv 2), (.vv 3), (.vv 4), (.vv 5), (.set (.vv 6) (.iv 0) (.ofI (.add (.toI (.get (.vv 6) (.iv 0))) (.mul (.iv 1) (.toI (.get (.vv 8) (.iv 0))))))), (.vv 7), (.vv 8)], (Z [0, 1, 2, 3, 4, 5, 6, 7, 8, 9, 10, 11, 12, 13, 14, 15, 16, 17, 18, 19, 20, 21])⟩ [(1, (some 1)), (2, (some 2))] = some (s4, [.ask (.lt (.iv 0) (.iv 5)), .ask (IB (.iv 0) (.vv 8)), .ask (IB (.iv 0) (.vv 6)), .ask (IB (.iv 0) (.vv 6)), .ask (FT (.mul (.iv 1) (.toI (.get (.vv 8) (.iv 0))))), .ask (FT (.add (.toI (.get (.vv 6) (.iv 0))) (.mul (.iv 1) (.toI (.get (.vv 8) (.iv 0)))))), .ask (IB (.iv 0) (.vv 6)), .ask (IB (.iv 0) (.vv 6)), .ask (FT (.add (.iv 0) (.il 1)))]) := by kernel_rfl
theorem p12 : stretch K 13 [false] s4 s2 [] ⟨[(.add (.iv 4) (.il 1)), (.iv 2), (.iv 3)], [], [(.vv 0), (.vv 1), (.vv 2), (.vv 3), (.vv 4), (.vv 5), (.vv 6), (.vv 7)], (Z [0, 1, 2, 3, 4, 5, 6, 7, 8, 9, 10, 16, 17, 18, 19, 20])⟩ [(1, (some 1)), (2, (some 2))] = some (s2, [.ask (.not (.lt (.iv 0) (.iv 5))), .ask (FT (.add (.iv 4) (.il 1)))]) := by kernel_rfl
theorem p13 : stretch K 53 [true] s5 s5 [] ⟨[(.iv 0), (.iv 1), (.add (.iv 2) (.il 1))], [], [(.vv 0), (.vv 1), (.vv 2), (.vv 3), (.vv 4), (.vv 5), (.vv 6), (.snoc (.vv 7) (.snoc (.snoc .emp (.ofI (.toI (.get (.get (.vv 8) (.il 0)) (.il 0))))) (.ofI (.toI (.get (.get (.vv 8) (.il 0)) (.il 1))))))], (Z [0, 1, 2, 3, 4, 5, 6, 7, 8, 9, 10, 11, 12, 13, 14, 15])⟩ [(2, (some 5))] = some (s5, [.ask (.lt (.iv 2) (.iv 1)), .ask (IB (.iv 2) (.vv 6)), .call 66 [(.ofI (.toI (.get (.vv 6) (.iv 2)))), (.ofI (.iv 0))], .ask (.le (.add (.len (.vv 7)) (.il 1)) (.il 4398046510592)), .ask (FT (.add (.iv 2) (.il 1)))]) := by kernel_rfl
theorem p14 : last K 21 18 [false] s5 = some ((.snoc (.snoc .emp (.vv 7)) (.ofI (.il 0))), [.ask (.not (.lt (.iv 2) (.iv 1)))]) := by kernel_rfl
theorem b : sbegin prog 21 = some s0 := by kernel_rfl
end hPredict
end X
namespace X
open Go Go.Abs Go.Sym
namespace rTotal
abbrev f : Nat := 85
noncomputable def K : Cfg := ⟨prog, pl, [], [], []⟩
noncomputable def s0 : SMach := ⟨⟨85, 18, (l (.pure 3 (.vv 0) (q 0 0))), [.code (C 85 [])], [], .run, false, none⟩, [], ⟨0, 1, 1, z⟩⟩
noncomputable def s1 : SMach := ⟨⟨85, 18, (m (.pure 3 (.vv 0) (q 1 0)) z z (l (.int .i64 (.iv 0))) (l (.int .i64 (.iv 1)))), [.code (C 85 [1, 1, 0, 1, 0, 0]), .inLoop (C 85 [1, 1, 0, 1, 0, 0]), .inBlock 0, .code (C 85 [1, 1, 1])], [], .run, false, none⟩, [], ⟨0, 2, 1, z⟩⟩
theorem p0 : stretch K 15 [] s0 s1 [] ⟨[(.il 0), (.il 0)], [], [(.vv 0)], (Z [0, 0])⟩ [] = some (s1, []) := by kernel_rfl
theorem p1 : stretch K 28 [true] s1 s1 [] ⟨[(.add (.iv 0) (.toI (.get (.vv 0) (.iv 1)))), (.add (.iv 1) (.il 1))], [], [(.vv 0)], (Z [0, 1])⟩ [] = some (s1, [.ask (.lt (.iv 1) (.len (.vv 0))), .ask (IB (.iv 1) (.vv 0)), .ask (FT (.add (.iv 0) (.toI (.get (.vv 0) (.iv 1))))), .ask (FT (.add (.iv 1) (.il 1)))]) := by kernel_rfl
theorem p2 : last K 85 16 [false] s1 = some ((.ofI (.iv 0)), [.ask (.not (.lt (.iv 1) (.len (.vv 0))))]) := by kernel_rfl
theorem b : sbegin prog 85 = some s0 := by kernel_rfl
end rTotal
end X
namespace X
open Go Go.Abs Go.Sym
namespace rShared
abbrev f : Nat := 62
noncomputable def K : Cfg := ⟨prog, pl, [], [85, 34], []⟩
noncomputable def s0 : SMach := ⟨⟨62, 22, (l (.pure 3 (.vv 0) (q 0 0))), [.code (C 62 [])], [], .run, false, none⟩, [], ⟨0, 1, 1, z⟩⟩
noncomputable def s1 : SMach := ⟨⟨62, 22, (m (.pure 3 (.vv 0) (q 1 0)) z z (l (.view 0)) (l (.int .i64 (.iv 0)))), [.code (C 62 [1, 1, 0, 1, 0, 0]), .inLoop (C 62 [1, 1, 0, 1, 0, 0]), .inBlock 0, .code (C 62 [1, 1, 1])], [], .run, false, none⟩, [], ⟨1, 2, 2, (l (.arr 53 (.vv 1) 0))⟩⟩
theorem p0 : stretch K 15 [] s0 s1 [] ⟨[(.il 0)], [], [(.vv 0), .nil], (Z [0, 0])⟩ [(0, none)] = some (s1, []) := by kernel_rfl
theorem p1 : stretch K 32 [true] s1 s1 [] ⟨[(.add (.iv 0) (.il 1))], [], [(.vv 0), (.snoc (.vv 1) (.snoc (.snoc .emp (.ofI (.toI (.get (.vv 3) (.il 0))))) (.ofI (.toI (.get (.vv 3) (.il 1))))))], (Z [0, 1])⟩ [(0, (some 2))] = some (s1, [.ask (.lt (.iv 0) (.len (.vv 0))), .ask (IB (.iv 0) (.vv 0)), .call 85 [(.vv 0)], .call 34 [(.ofI (.toI (.get (.vv 0) (.iv 0)))), (.ofI (.toI (.vv 2)))], .ask (.le (.add (.len (.vv 1)) (.il 1)) (.il 4398046510592)), .ask (FT (.add (.iv 0) (.il 1)))]) := by kernel_rfl
theorem p2 : last K 62 16 [false] s1 = some ((.vv 1), [.ask (.not (.lt (.iv 0) (.len (.vv 0))))]) := by kernel_rfl
theorem b : sbegin prog 62 = some s0 := by kernel_rfl
end rShared
end X
namespace X
open Go Go.Abs Go.Sym
namespace rAll
abbrev f : Nat := 61
noncomputable def K : Cfg := ⟨prog, pl, [], [19, 85], []⟩
noncomputable def s0 : SMach := ⟨⟨61, 16, (m (.agg [(.int .i64 (.toI (.get (.vv 0) (.il 0)))), (.pure 3 (.get (.vv 0) (.il 1)) (q 0 1)), (.pure 27 (.get (.vv 0) (.il 2)) (q 0 2)), (.pure 27 (.get (.vv 0) (.il 3)) (q 0 3))]) (l (.pure 3 (.vv 1) (q 1 0))) z z z), [.code (C 61 [])], [], .run, false, none⟩, [], ⟨0, 2, 2, z⟩⟩
theorem p0 : last K 61 24 [] s0 = some ((.ofI (.toI (.vv 3))), [.call 19 [(HM (.vv 0)), (.vv 1)], .ask (FT (.sub (.len (.vv 2)) (.il 1))), .ask (IB (.sub (.len (.vv 2)) (.il 1)) (.vv 2)), .call 85 [(.get (.vv 2) (.sub (.len (.vv 2)) (.il 1)))]]) := by kernel_rfl
theorem b : sbegin prog 61 = some s0 := by kernel_rfl
end rAll
end X
namespace X
open Go Go.Abs Go.Sym
namespace rProb
abbrev f : Nat := 28
noncomputable def K : Cfg := ⟨prog, pl, [], [17, 61, 34], []⟩
noncomputable def s0 : SMach := ⟨⟨28, 32, (m (.agg [(.int .i64 (.toI (.get (.vv 0) (.il 0)))), (.pure 3 (.get (.vv 0) (.il 1)) (q 0 1)), (.pure 27 (.get (.vv 0) (.il 2)) (q 0 2)), (.pure 27 (.get (.vv 0) (.il 3)) (q 0 3))]) (l (.pure 3 (.vv 1) (q 1 0))) z z z), [.code (C 28 [])], [], .run, false, none⟩, [], ⟨0, 2, 2, z⟩⟩
noncomputable def s1 : SMach := ⟨⟨28, 32, (n (l (.pure 3 (.vv 1) (q 3 0))) (l (.addr 0 0)) (n (l (.int .i64 (.iv 0))) z z z) (m (.addr 1 0) (l (.int .i64 (.iv 1))) z z z)), [.code (C 28 [1, 1, 1, 0, 1, 0, 0]), .inLoop (C 28 [1, 1, 1, 0, 1, 0, 0]), .inBlock 0, .code (C 28 [1, 1, 1, 1])], [], .run, false, none⟩, [], ⟨2, 7, 3, (m (.cells [(.int .i64 (.toI (.get (.vv 0) (.il 0)))), (.pure 3 (.get (.vv 0) (.il 1)) (q 4 0)), (.pure 27 (.get (.vv 0) (.il 2)) (q 5 0)), (.pure 27 (.get (.vv 0) (.il 3)) (q 6 0))]) (l (.cells [(.int .i64 (.il 0)), (.int .i64 (.il 0))])) z z z)⟩⟩
theorem b : sbegin prog 28 = some s0 := by kernel_rfl
end rProb
end X
namespace X
open Go Go.Abs Go.Sym
namespace rFilter
abbrev f : Nat := 30
noncomputable def K : Cfg := ⟨prog, pl, [], [17, 61, 19, 62], []⟩
noncomputable def s0 : SMach := ⟨⟨30, 38, (m (.agg [(.int .i64 (.toI (.get (.vv 0) (.il 0)))), (.pure 3 (.get (.vv 0) (.il 1)) (q 0 1)), (.pure 27 (.get (.vv 0) (.il 2)) (q 0 2)), (.pure 27 (.get (.vv 0) (.il 3)) (q 0 3))]) (l (.pure 3 (.vv 1) (q 1 0))) z z z), [.code (C 30 [])], [], .run, false, none⟩, [], ⟨0, 2, 2, z⟩⟩
noncomputable def s1 : SMach := ⟨⟨30, 38, (n (m (.pure 3 (.vv 1) (q 5 0)) z (l (.int .i64 (.iv 0))) z z) z (n (l (.pure 27 (.vv 4) (q 6 0))) z z z) (n (l (.view 1)) z z z)), [.code (C 30 [1, 1, 1, 1, 1, 0, 1, 0, 0]), .inLoop (C 30 [1, 1, 1, 1, 1, 0, 1, 0, 0]), .inBlock 0, .code (C 30 [1, 1, 1, 1, 1, 1])], [], .run, false, none⟩, [], ⟨2, 7, 6, (n (l (.arr 46 (.vv 5) 0)) z z z)⟩⟩
theorem b : sbegin prog 30 = some s0 := by kernel_rfl
end rFilter
end X
namespace X
open Go Go.Abs Go.Sym
namespace rSmooth
abbrev f : Nat := 32
noncomputable def K : Cfg := ⟨prog, pl, [], [17, 61, 19, 20, 62], []⟩
noncomputable def s0 : SMach := ⟨⟨32, 66, (m (.agg [(.int .i64 (.toI (.get (.vv 0) (.il 0)))), (.pure 3 (.get (.vv 0) (.il 1)) (q 0 1)), (.pure 27 (.get (.vv 0) (.il 2)) (q 0 2)), (.pure 27 (.get (.vv 0) (.il 3)) (q 0 3))]) (l (.pure 3 (.vv 1) (q 1 0))) z z z), [.code (C 32 [])], [], .run, false, none⟩, [], ⟨0, 2, 2, z⟩⟩
noncomputable def s1 : SMach := ⟨⟨32, 66, (n (m (.pure 3 (.vv 1) (q 6 0)) z (l (.view 1)) z z) (m (.addr 0 0) z (l (.int .i64 (.iv 0))) z z) (n (l (.pure 27 (.vv 4) (q 10 0))) z z z) (n (l (.pure 27 (.vv 5) (q 11 0))) z z z)), [.code (C 32 [1, 1, 1, 1, 1, 0, 1, 0, 0]), .inLoop (C 32 [1, 1, 1, 1, 1, 0, 1, 0, 0]), .inBlock 0, .code (C 32 [1, 1, 1, 1, 1, 1])], [], .run, false, none⟩, [], ⟨2, 12, 7, (m (.cells [(.int .i64 (.toI (.get (.vv 0) (.il 0)))), (.pure 3 (.get (.vv 0) (.il 1)) (q 7 0)), (.pure 27 (.get (.vv 0) (.il 2)) (q 8 0)), (.pure 27 (.get (.vv 0) (.il 3)) (q 9 0))]) (l (.arr 46 (.vv 6) 0)) z z z)⟩⟩
noncomputable def s2 : SMach := ⟨⟨32, 66, (n (m (.pure 3 (.vv 1) (q 12 0)) z (l (.view 2)) z z) (m (.addr 0 0) z (l (.int .i64 (.iv 1))) z z) (n (l (.pure 27 (.vv 4) (q 16 0))) (l (.view 1)) z z) (n (l (.pure 27 (.vv 5) (q 17 0))) (l (.int .i64 (.iv 0))) z z)), [.code (C 32 [1, 1, 1, 1, 1, 0, 1, 0, 0, 1, 0, 0, 1, 0, 1, 0, 0]), .inLoop (C 32 [1, 1, 1, 1, 1, 0, 1, 0, 0, 1, 0, 0, 1, 0, 1, 0, 0]), .inBlock 2, .code (C 32 [1, 1, 1, 1, 1, 0, 1, 0, 0, 1, 0, 0, 1, 1]), .inBlock 1, .code (C 32 [1, 1, 1, 1, 1, 0, 1, 0, 0, 1, 1]), .inLoop (C 32 [1, 1, 1, 1, 1, 0, 1, 0, 0]), .inBlock 0, .code (C 32 [1, 1, 1, 1, 1, 1])], [], .run, false, none⟩, [], ⟨3, 18, 8, (m (.cells [(.int .i64 (.toI (.get (.vv 0) (.il 0)))), (.pure 3 (.get (.vv 0) (.il 1)) (q 13 0)), (.pure 27 (.get (.vv 0) (.il 2)) (q 14 0)), (.pure 27 (.get (.vv 0) (.il 3)) (q 15 0))]) (l (.arr 3 (.vv 6) 0)) (l (.arr 46 (.vv 7) 0)) z z)⟩⟩
theorem b : sbegin prog 32 = some s0 := by kernel_rfl
end rSmooth
end X
namespace X
open Go Go.Abs Go.Sym
namespace rPredict
abbrev f : Nat := 22
noncomputable def K : Cfg := ⟨prog, pl, [], [17, 61, 19, 62], []⟩
noncomputable def s0 : SMach := ⟨⟨22, 52, (m (.agg [(.int .i64 (.toI (.get (.vv 0) (.il 0)))), (.pure 3 (.get (.vv 0) (.il 1)) (q 0 1)), (.pure 27 (.get (.vv 0) (.il 2)) (q 0 2)), (.pure 27 (.get (.vv 0) (.il 3)) (q 0 3))]) (l (.pure 3 (.vv 1) (q 1 0))) (l (.int .i64 (.toI (.vv 2)))) z z), [.code (C 22 [])], [], .run, false, none⟩, [], ⟨0, 3, 3, z⟩⟩
noncomputable def s1 : SMach := ⟨⟨22, 52, (n (n z (l (.view 1)) z z) (m (.int .i64 (.toI (.vv 2))) z (l (.int .i64 (.iv 0))) z z) (l (.addr 0 0)) z), [.code (C 22 [1, 1, 1, 1, 1, 1, 0, 1, 0, 0]), .inLoop (C 22 [1, 1, 1, 1, 1, 1, 0, 1, 0, 0]), .inBlock 0, .code (C 22 [1, 1, 1, 1, 1, 1, 1])], [], .run, false, none⟩, [], ⟨2, 8, 6, (m (.cells [(.int .i64 (.toI (.get (.vv 0) (.il 0)))), (.pure 3 (.get (.vv 0) (.il 1)) (q 5 0)), (.pure 27 (.get (.vv 0) (.il 2)) (q 6 0)), (.pure 27 (.get (.vv 0) (.il 3)) (q 7 0))]) (l (.arr 3 (.vv 5) 0)) z z z)⟩⟩
theorem p0 : last K 22 27 [true] s0 = some ((.snoc (.snoc .emp .nil) (.ofI (.toI (.vv 3)))), [.call 17 [(HM (.vv 0)), (.vv 1)], .ask (.not (.eq (.toI (.vv 3)) (.il 0)))]) := by kernel_rfl
theorem p1 : last K 22 41 [false, true] s0 = some ((.snoc (.snoc .emp .nil) (.ofI (.il 2))), [.call 17 [(HM (.vv 0)), (.vv 1)], .ask (.not (.not (.eq (.toI (.vv 3)) (.il 0)))), .ask (.lt (.toI (.vv 2)) (.il 0))]) := by kernel_rfl
theorem p2 : last K 22 41 [false, false, true] s0 = some ((.snoc (.snoc .emp .nil) (.ofI (.il 2))), [.call 17 [(HM (.vv 0)), (.vv 1)], .ask (.not (.not (.eq (.toI (.vv 3)) (.il 0)))), .ask (.not (.lt (.toI (.vv 2)) (.il 0))), .ask (FT (.sub (.il 8) (.len (.vv 1)))), .ask (.lt (.sub (.il 8) (.len (.vv 1))) (.toI (.vv 2)))]) := by kernel_rfl
theorem p3 : last K 22 51 [false, false, false, true] s0 = some ((.snoc (.snoc .emp .nil) (.ofI (.il 7))), [.call 17 [(HM (.vv 0)), (.vv 1)], .ask (.not (.not (.eq (.toI (.vv 3)) (.il 0)))), .ask (.not (.lt (.toI (.vv 2)) (.il 0))), .ask (FT (.sub (.il 8) (.len (.vv 1)))), .ask (.not (.lt (.sub (.il 8) (.len (.vv 1))) (.toI (.vv 2)))), .call 61 [(HM (.vv 0)), (.vv 1)], .ask (.eq (.toI (.vv 4)) (.il 0))]) := by kernel_rfl
theorem p4 : stretch K 64 [false, false, false, false] s0 s1 [] ⟨[(.il 0)], [], [(.vv 0), (.vv 1), (.vv 2), (.vv 3), (.vv 4), (.app .nil (.vv 1))], [(q 0 0), (q 1 0), (q 2 0), (q 3 0), (q 4 0), (q 0 1), (q 0 2), (q 0 3)]⟩ [(0, (some 0)), (1, (some 1))] = some (s1, [.call 17 [(HM (.vv 0)), (.vv 1)], .ask (.not (.not (.eq (.toI (.vv 3)) (.il 0)))), .ask (.not (.lt (.toI (.vv 2)) (.il 0))), .ask (FT (.sub (.il 8) (.len (.vv 1)))), .ask (.not (.lt (.sub (.il 8) (.len (.vv 1))) (.toI (.vv 2)))), .call 61 [(HM (.vv 0)), (.vv 1)], .ask (.not (.eq (.toI (.vv 4)) (.il 0))), .ask (.le (.len (.vv 1)) (.il 8796093021696))]) := by kernel_rfl
theorem p5 : stretch K 24 [true] s1 s1 [] ⟨[(.add (.iv 0) (.il 1))], [], [(.vv 0), (.vv 1), (.vv 2), (.vv 3), (.vv 4), (.snoc (.vv 5) (.ofI (.il (-1))))], (Z [0, 1, 2, 3, 4, 5, 6, 7])⟩ [(0, (some 0)), (1, (some 3))] = some (s1, [.ask (.lt (.iv 0) (.toI (.vv 2))), .ask (.le (.add (.len (.vv 5)) (.il 1)) (.il 8796093021696)), .ask (FT (.add (.iv 0) (.il 1)))]) := by kernel_rfl
theorem p6 : last K 22 29 [false] s1 = some ((.snoc (.snoc .emp (.vv 7)) (.ofI (.il 0))), [.ask (.not (.lt (.iv 0) (.toI (.vv 2)))), .call 19 [(HM (.vv 0)), (.vv 5)], .ask (FT (.sub (.len (.vv 6)) (.il 1))), .ask (IB (.sub (.len (.vv 6)) (.il 1)) (.vv 6)), .call 62 [(.get (.vv 6) (.sub (.len (.vv 6)) (.il 1)))]]) := by kernel_rfl
theorem b : sbegin prog 22 = some s0 := by kernel_rfl
end rPredict
end X
namespace X
open Go Go.Abs Go.Sym
namespace SameTable
abbrev f : Nat := 18
noncomputable def K : Cfg := ⟨prog, pl, [], [51], []⟩
noncomputable def s0 : SMach := ⟨⟨18, 27, (m (.pure 27 (.vv 0) (q 0 0)) (l (.pure 27 (.vv 1) (q 1 0))) z z z), [.code (C 18 [])], [], .run, false, none⟩, [], ⟨0, 2, 2, z⟩⟩
noncomputable def s1 : SMach := ⟨⟨18, 27, (m (.pure 27 (.vv 0) (q 2 0)) (m (.pure 27 (.vv 1) (q 3 0)) (l (.int .i64 (.iv 0))) z z z) z z z), [.code (C 18 [1, 1, 0, 1, 0, 0]), .inLoop (C 18 [1, 1, 0, 1, 0, 0]), .inBlock 0, .code (C 18 [1, 1, 1])], [], .run, false, none⟩, [], ⟨0, 4, 2, z⟩⟩
theorem b : sbegin prog 18 = some s0 := by kernel_rfl
end SameTable
end X
namespace X
open Go Go.Abs Go.Sym
namespace SameQ
abbrev f : Nat := 23
noncomputable def K : Cfg := ⟨prog, pl, [], [], []⟩
noncomputable def s0 : SMach := ⟨⟨23, 26, (m (.pure 53 (.vv 0) (q 0 0)) (l (.pure 53 (.vv 1) (q 1 0))) z z z), [.code (C 23 [])], [], .run, false, none⟩, [], ⟨0, 2, 2, z⟩⟩
noncomputable def s1 : SMach := ⟨⟨23, 26, (m (.pure 53 (.vv 0) (q 2 0)) (m (.pure 53 (.vv 1) (q 3 0)) (l (.int .i64 (.iv 0))) z z z) z z z), [.code (C 23 [1, 1, 0, 1, 0, 0]), .inLoop (C 23 [1, 1, 0, 1, 0, 0]), .inBlock 0, .code (C 23 [1, 1, 1])], [], .run, false, none⟩, [], ⟨0, 4, 2, z⟩⟩
theorem p1 : stretch K 22 [false] s0 s1 [] ⟨[(.il 0)], [], [(.vv 0), (.vv 1)], (Z [0, 1, 0, 1])⟩ [] = some (s1, [.ask (.not (.not (.eq (.len (.vv 0)) (.len (.vv 1)))))]) := by kernel_rfl
theorem p3 : stretch K 33 [true, false] s1 s1 [] ⟨[(.add (.iv 0) (.il 1))], [], [(.vv 0), (.vv 1)], (Z [0, 1, 2, 3])⟩ [] = some (s1, [.ask (.lt (.iv 0) (.len (.vv 0))), .ask (IB (.iv 0) (.vv 0)), .ask (IB (.iv 0) (.vv 1)), .ask (.not (.not (.and (.eq (.toI (.get (.get (.vv 0) (.iv 0)) (.il 0))) (.toI (.get (.get (.vv 1) (.iv 0)) (.il 0)))) (.eq (.toI (.get (.get (.vv 0) (.iv 0)) (.il 1))) (.toI (.get (.get (.vv 1) (.iv 0)) (.il 1))))))), .ask (FT (.add (.iv 0) (.il 1)))]) := by kernel_rfl
theorem p4 : last K 23 15 [false] s1 = some ((.ofB (.bl true)), [.ask (.not (.lt (.iv 0) (.len (.vv 0))))]) := by kernel_rfl
theorem b : sbegin prog 23 = some s0 := by kernel_rfl
end SameQ
end X
namespace X
open Go Go.Abs Go.Sym
namespace SameQs
abbrev f : Nat := 33
noncomputable def K : Cfg := ⟨prog, pl, [], [23], []⟩
noncomputable def s0 : SMach := ⟨⟨33, 27, (m (.pure 46 (.vv 0) (q 0 0)) (l (.pure 46 (.vv 1) (q 1 0))) z z z), [.code (C 33 [])], [], .run, false, none⟩, [], ⟨0, 2, 2, z⟩⟩
noncomputable def s1 : SMach := ⟨⟨33, 27, (m (.pure 46 (.vv 0) (q 2 0)) (m (.pure 46 (.vv 1) (q 3 0)) (l (.int .i64 (.iv 0))) z z z) z z z), [.code (C 33 [1, 1, 0, 1, 0, 0]), .inLoop (C 33 [1, 1, 0, 1, 0, 0]), .inBlock 0, .code (C 33 [1, 1, 1])], [], .run, false, none⟩, [], ⟨0, 4, 2, z⟩⟩
theorem b : sbegin prog 33 = some s0 := by kernel_rfl
end SameQs
end X
namespace X
open Go Go.Abs Go.Sym
namespace HiddenPredicts
abbrev f : Nat := 4
noncomputable def K : Cfg := ⟨prog, pl, [], [10, 11, 14, 21, 22, 23], []⟩
noncomputable def e0 : SV := .int .u8 (.toI (.get (.vv 0) (.il 0)))
noncomputable def e1 : SV := .int .u8 (.toI (.get (.vv 0) (.il 1)))
noncomputable def e2 : SV := .int .u8 (.toI (.get (.vv 0) (.il 2)))
noncomputable def e3 : SV := .int .i64 (.toI (.get (.get (.vv 6) (.il 0)) (.il 0)))
noncomputable def e4 : SV := .int .i64 (.toI (.get (.get (.vv 6) (.il 1)) (.il 0)))
noncomputable def e5 : SV := .int .i64 (.toI (.get (.get (.vv 6) (.il 2)) (.il 0)))
noncomputable def e6 : SV := .int .i64 (.toI (.vv 4))
noncomputable def s0 : SMach := ⟨⟨4, 78, (m (.agg [e0, e1, e2, (.pure 5 (.get (.vv 0) (.il 3)) (q 0 3)), (.pure 5 (.get (.vv 0) (.il 4)) (q 0 4))]) (l (.agg [(.int .u8 (.toI (.get (.vv 1) (.il 0)))), (.int .u8 (.toI (.get (.vv 1) (.il 1)))), (.int .u8 (.toI (.get (.vv 1) (.il 2)))), (.int .i64 (.toI (.get (.vv 1) (.il 3))))])) (l (.agg [(.int .i64 (.toI (.get (.vv 2) (.il 0)))), (.pure 3 (.get (.vv 2) (.il 1)) (q 2 1)), (.pure 27 (.get (.vv 2) (.il 2)) (q 2 2)), (.pure 27 (.get (.vv 2) (.il 3)) (q 2 3))])) (l (.pure 3 (.vv 3) (q 3 0))) (l e6)), [.code (C 4 [])], [], .run, false, none⟩, [], ⟨0, 5, 5, z⟩⟩
noncomputable def s1 : SMach := ⟨⟨4, 78, (n (n (l (.addr 0 0)) z z z) (n z (n (l (.agg [e3, (.pure 3 (.get (.get (.vv 6) (.il 0)) (.il 1)) (q 10 0)), (.pure 27 (.get (.get (.vv 6) (.il 0)) (.il 2)) (q 11 0)), (.pure 27 (.get (.get (.vv 6) (.il 0)) (.il 3)) (q 12 0)), e4, (.pure 3 (.get (.get (.vv 6) (.il 1)) (.il 1)) (q 13 0)), (.pure 27 (.get (.get (.vv 6) (.il 1)) (.il 2)) (q 14 0)), (.pure 27 (.get (.get (.vv 6) (.il 1)) (.il 3)) (q 15 0)), e5, (.pure 3 (.get (.get (.vv 6) (.il 2)) (.il 1)) (q 16 0)), (.pure 27 (.get (.get (.vv 6) (.il 2)) (.il 2)) (q 17 0)), (.pure 27 (.get (.get (.vv 6) (.il 2)) (.il 3)) (q 18 0))])) z z z) z z) (m (.pure 3 (.vv 3) (q 7 0)) z (n (l (.int .i64 (.iv 0))) z z z) z z) (l e6)), [.code (C 4 [1, 1, 0, 1, 0, 0]), .inLoop (C 4 [1, 1, 0, 1, 0, 0]), .inBlock 0, .code (C 4 [1, 1, 1])], [], .run, false, none⟩, [], ⟨3, 19, 7, (l (.cells [e0, e1, e2, (.pure 5 (.get (.vv 0) (.il 3)) (q 8 0)), (.pure 5 (.get (.vv 0) (.il 4)) (q 9 0))]))⟩⟩
noncomputable def s2 : SMach := ⟨⟨4, 78, (n (n (m (.addr 0 0) z (l (.agg [(.pure 3 (.vv 7) (q 35 0)), (.pure 3 (.cut (.vv 3) (.il 0) (.min (.len (.vv 3)) (.il 10))) (q 36 0))])) z z) z z z) (n (n z (l (.int .i64 (.iv 0))) z z) (n (l (.agg [e3, (.pure 3 (.get (.get (.vv 6) (.il 0)) (.il 1)) (q 26 0)), (.pure 27 (.get (.get (.vv 6) (.il 0)) (.il 2)) (q 27 0)), (.pure 27 (.get (.get (.vv 6) (.il 0)) (.il 3)) (q 28 0)), e4, (.pure 3 (.get (.get (.vv 6) (.il 1)) (.il 1)) (q 29 0)), (.pure 27 (.get (.get (.vv 6) (.il 1)) (.il 2)) (q 30 0)), (.pure 27 (.get (.get (.vv 6) (.il 1)) (.il 3)) (q 31 0)), e5, (.pure 3 (.get (.get (.vv 6) (.il 2)) (.il 1)) (q 32 0)), (.pure 27 (.get (.get (.vv 6) (.il 2)) (.il 2)) (q 33 0)), (.pure 27 (.get (.get (.vv 6) (.il 2)) (.il 3)) (q 34 0))])) z z z) z z) (m (.pure 3 (.vv 3) (q 20 0)) z (n (l (.int .i64 (.iv 2))) z z z) z z) (m e6 z (l (.addr 3 0)) z z)), [.code (C 4 [1, 1, 0, 1, 0, 0, 1, 1, 0, 0, 1, 1, 0, 0]), .inLoop (C 4 [1, 1, 0, 1, 0, 0, 1, 1, 0, 0, 1, 1, 0, 0]), .inBlock 2, .inBlock 1, .code (C 4 [1, 1, 0, 1, 0, 0, 1, 1, 1]), .inLoop (C 4 [1, 1, 0, 1, 0, 0]), .inBlock 0, .code (C 4 [1, 1, 1])], [], .run, false, none⟩, [], ⟨4, 37, 11, (m (.cells [e0, e1, e2, (.pure 5 (.get (.vv 0) (.il 3)) (q 21 0)), (.pure 5 (.get (.vv 0) (.il 4)) (q 22 0))]) z z (l (.cells [(.int .i64 (.iv 1)), (.pure 3 (.vv 8) (q 23 0)), (.pure 27 (.vv 9) (q 24 0)), (.pure 27 (.vv 10) (q 25 0))])) z)⟩⟩
noncomputable def s3 : SMach := ⟨⟨4, 78, (n (n (m (.addr 0 0) z (l (.agg [(.pure 3 (.vv 7) (q 53 0)), (.pure 3 (.cut (.vv 3) (.il 0) (.min (.len (.vv 3)) (.il 10))) (q 54 0))])) z z) z z (n z (l (.int .i64 (.iv 0))) z z)) (n (n z (l (.int .i64 (.iv 1))) z z) (n (l (.agg [e3, (.pure 3 (.get (.get (.vv 6) (.il 0)) (.il 1)) (q 44 0)), (.pure 27 (.get (.get (.vv 6) (.il 0)) (.il 2)) (q 45 0)), (.pure 27 (.get (.get (.vv 6) (.il 0)) (.il 3)) (q 46 0)), e4, (.pure 3 (.get (.get (.vv 6) (.il 1)) (.il 1)) (q 47 0)), (.pure 27 (.get (.get (.vv 6) (.il 1)) (.il 2)) (q 48 0)), (.pure 27 (.get (.get (.vv 6) (.il 1)) (.il 3)) (q 49 0)), e5, (.pure 3 (.get (.get (.vv 6) (.il 2)) (.il 1)) (q 50 0)), (.pure 27 (.get (.get (.vv 6) (.il 2)) (.il 2)) (q 51 0)), (.pure 27 (.get (.get (.vv 6) (.il 2)) (.il 3)) (q 52 0))])) z z z) (l (.pure 3 (.vv 8) (q 43 0))) z) (m (.pure 3 (.vv 3) (q 37 0)) z (n (l (.int .i64 (.iv 3))) z z z) z z) (m e6 z (l (.addr 3 0)) (n z (l (.agg [e6, (.int .i64 (.rem (.toI (.vv 4)) (.il 9))), (.int .i64 (.min (.toI (.vv 4)) (.il (-1)))), (.int .i64 (.max (.toI (.vv 4)) (.il 9)))])) z z) z)), [.code (C 4 [1, 1, 0, 1, 0, 0, 1, 1, 0, 0, 1, 1, 0, 0, 1, 1, 0, 0, 1, 1, 0, 0]), .inLoop (C 4 [1, 1, 0, 1, 0, 0, 1, 1, 0, 0, 1, 1, 0, 0, 1, 1, 0, 0, 1, 1, 0, 0]), .inBlock 4, .inBlock 3, .code (C 4 [1, 1, 0, 1, 0, 0, 1, 1, 0, 0, 1, 1, 0, 0, 1, 1, 1]), .inLoop (C 4 [1, 1, 0, 1, 0, 0, 1, 1, 0, 0, 1, 1, 0, 0]), .inBlock 2, .inBlock 1, .code (C 4 [1, 1, 0, 1, 0, 0, 1, 1, 1]), .inLoop (C 4 [1, 1, 0, 1, 0, 0]), .inBlock 0, .code (C 4 [1, 1, 1])], [], .run, false, none⟩, [], ⟨4, 55, 12, (m (.cells [e0, e1, e2, (.pure 5 (.get (.vv 0) (.il 3)) (q 38 0)), (.pure 5 (.get (.vv 0) (.il 4)) (q 39 0))]) z z (l (.cells [(.int .i64 (.iv 2)), (.pure 3 (.vv 9) (q 40 0)), (.pure 27 (.vv 10) (q 41 0)), (.pure 27 (.vv 11) (q 42 0))])) z)⟩⟩
theorem p1 : stretch K 26 [false] s0 s1 [] ⟨[(.il 0)], [], [(.vv 0), (.vv 1), (.vv 2), (.vv 3), (.vv 4), (.vv 5), (.vv 6)], [(q 0 0), (q 1 0), (q 2 0), (q 3 0), (q 4 0), (q 5 0), (q 6 0), (q 3 0), (q 0 3), (q 0 4), (q 6 1), (q 6 2), (q 6 3), (q 6 5), (q 6 6), (q 6 7), (q 6 9), (q 6 10), (q 6 11)]⟩ [(0, (some 0))] = some (s1, [.call 10 [], .ask (.not (.not (.toB (.vv 5)))), .call 11 [(.snoc (.snoc (.snoc (.snoc (.snoc .emp (.ofI (.toI (.get (.vv 0) (.il 0))))) (.ofI (.toI (.get (.vv 0) (.il 1))))) (.ofI (.toI (.get (.vv 0) (.il 2))))) (.get (.vv 0) (.il 3))) (.get (.vv 0) (.il 4))), (.snoc (.snoc (.snoc (.snoc .emp (.ofI (.toI (.get (.vv 1) (.il 0))))) (.ofI (.toI (.get (.vv 1) (.il 1))))) (.ofI (.toI (.get (.vv 1) (.il 2))))) (.ofI (.toI (.get (.vv 1) (.il 3))))), (HM (.vv 2))]]) := by kernel_rfl
theorem p2 : stretch K 30 [true, true] s1 s2 [] ⟨[(.il 0), (.toI (.get (.get (.vv 6) (.il 0)) (.il 0))), (.il 0)], [], [(.vv 0), (.vv 1), (.vv 2), (.vv 3), (.vv 4), (.vv 5), (.vv 6), (.vv 7), (.get (.get (.vv 6) (.il 0)) (.il 1)), (.get (.get (.vv 6) (.il 0)) (.il 2)), (.get (.get (.vv 6) (.il 0)) (.il 3))], [(q 0 0), (q 1 0), (q 2 0), (q 3 0), (q 4 0), (q 5 0), (q 6 0), (q 7 0), (q 8 0), (q 9 0), (q 10 0), (q 11 0), (q 12 0), (q 13 0), (q 14 0), (q 15 0), (q 16 0), (q 17 0), (q 18 0), (q 19 0), (q 7 0), (q 8 0), (q 9 0), (q 10 0), (q 11 0), (q 12 0), (q 10 0), (q 11 0), (q 12 0), (q 13 0), (q 14 0), (q 15 0), (q 16 0), (q 17 0), (q 18 0), (q 19 0), (.sub (q 7 0) (.il 0) (.min (.len (.vv 3)) (.il 10)) 1)]⟩ [(0, (some 0)), (3, (some 3))] = some (s2, [.ask (.lt (.iv 0) (.il 3)), .ask (.eq (.iv 0) (.il 0)), .ask (.le (.il 0) (.min (.len (.vv 3)) (.il 10))), .ask (.le (.min (.len (.vv 3)) (.il 10)) (.len (.vv 3))), .call 14 [(.snoc (.snoc (.snoc (.snoc (.snoc .emp (.ofI (.toI (.get (.vv 0) (.il 0))))) (.ofI (.toI (.get (.vv 0) (.il 1))))) (.ofI (.toI (.get (.vv 0) (.il 2))))) (.get (.vv 0) (.il 3))) (.get (.vv 0) (.il 4)))], .ask (.le (.il 0) (.min (.len (.vv 3)) (.il 10))), .ask (.le (.min (.len (.vv 3)) (.il 10)) (.len (.vv 3)))]) := by kernel_rfl
theorem p3 : stretch K 30 [true, false, true] s1 s2 [] ⟨[(.il 0), (.toI (.get (.get (.vv 6) (.il 1)) (.il 0))), (.il 1)], [], [(.vv 0), (.vv 1), (.vv 2), (.vv 3), (.vv 4), (.vv 5), (.vv 6), (.vv 7), (.get (.get (.vv 6) (.il 1)) (.il 1)), (.get (.get (.vv 6) (.il 1)) (.il 2)), (.get (.get (.vv 6) (.il 1)) (.il 3))], [(q 0 0), (q 1 0), (q 2 0), (q 3 0), (q 4 0), (q 5 0), (q 6 0), (q 7 0), (q 8 0), (q 9 0), (q 10 0), (q 11 0), (q 12 0), (q 13 0), (q 14 0), (q 15 0), (q 16 0), (q 17 0), (q 18 0), (q 19 0), (q 7 0), (q 8 0), (q 9 0), (q 13 0), (q 14 0), (q 15 0), (q 10 0), (q 11 0), (q 12 0), (q 13 0), (q 14 0), (q 15 0), (q 16 0), (q 17 0), (q 18 0), (q 19 0), (.sub (q 7 0) (.il 0) (.min (.len (.vv 3)) (.il 10)) 1)]⟩ [(0, (some 0)), (3, (some 3))] = some (s2, [.ask (.lt (.iv 0) (.il 3)), .ask (.not (.eq (.iv 0) (.il 0))), .ask (.eq (.iv 0) (.il 1)), .ask (.le (.il 0) (.min (.len (.vv 3)) (.il 10))), .ask (.le (.min (.len (.vv 3)) (.il 10)) (.len (.vv 3))), .call 14 [(.snoc (.snoc (.snoc (.snoc (.snoc .emp (.ofI (.toI (.get (.vv 0) (.il 0))))) (.ofI (.toI (.get (.vv 0) (.il 1))))) (.ofI (.toI (.get (.vv 0) (.il 2))))) (.get (.vv 0) (.il 3))) (.get (.vv 0) (.il 4)))], .ask (.le (.il 0) (.min (.len (.vv 3)) (.il 10))), .ask (.le (.min (.len (.vv 3)) (.il 10)) (.len (.vv 3)))]) := by kernel_rfl
theorem p4 : stretch K 30 [true, false, false, true] s1 s2 [] ⟨[(.il 0), (.toI (.get (.get (.vv 6) (.il 2)) (.il 0))), (.il 2)], [], [(.vv 0), (.vv 1), (.vv 2), (.vv 3), (.vv 4), (.vv 5), (.vv 6), (.vv 7), (.get (.get (.vv 6) (.il 2)) (.il 1)), (.get (.get (.vv 6) (.il 2)) (.il 2)), (.get (.get (.vv 6) (.il 2)) (.il 3))], [(q 0 0), (q 1 0), (q 2 0), (q 3 0), (q 4 0), (q 5 0), (q 6 0), (q 7 0), (q 8 0), (q 9 0), (q 10 0), (q 11 0), (q 12 0), (q 13 0), (q 14 0), (q 15 0), (q 16 0), (q 17 0), (q 18 0), (q 19 0), (q 7 0), (q 8 0), (q 9 0), (q 16 0), (q 17 0), (q 18 0), (q 10 0), (q 11 0), (q 12 0), (q 13 0), (q 14 0), (q 15 0), (q 16 0), (q 17 0), (q 18 0), (q 19 0), (.sub (q 7 0) (.il 0) (.min (.len (.vv 3)) (.il 10)) 1)]⟩ [(0, (some 0)), (3, (some 3))] = some (s2, [.ask (.lt (.iv 0) (.il 3)), .ask (.not (.eq (.iv 0) (.il 0))), .ask (.not (.eq (.iv 0) (.il 1))), .ask (.eq (.iv 0) (.il 2)), .ask (.le (.il 0) (.min (.len (.vv 3)) (.il 10))), .ask (.le (.min (.len (.vv 3)) (.il 10)) (.len (.vv 3))), .call 14 [(.snoc (.snoc (.snoc (.snoc (.snoc .emp (.ofI (.toI (.get (.vv 0) (.il 0))))) (.ofI (.toI (.get (.vv 0) (.il 1))))) (.ofI (.toI (.get (.vv 0) (.il 2))))) (.get (.vv 0) (.il 3))) (.get (.vv 0) (.il 4)))], .ask (.le (.il 0) (.min (.len (.vv 3)) (.il 10))), .ask (.le (.min (.len (.vv 3)) (.il 10)) (.len (.vv 3)))]) := by kernel_rfl
theorem p5 : last K 4 12 [false] s1 = some ((.ofB (.bl true)), [.ask (.not (.lt (.iv 0) (.il 3)))]) := by kernel_rfl
theorem p6 : stretch K 29 [true, true] s2 s3 [] ⟨[(.il 0), (.il 0), (.iv 1), (.iv 2)], [], [(.vv 0), (.vv 1), (.vv 2), (.vv 3), (.vv 4), (.vv 5), (.vv 6), (.vv 7), (.vv 7), (.vv 8), (.vv 9), (.vv 10)], (Z [0, 1, 2, 3, 4, 5, 6, 7, 8, 9, 10, 11, 12, 13, 14, 15, 16, 17, 18, 19, 20, 21, 22, 23, 24, 25, 26, 27, 28, 29, 30, 31, 32, 33, 34, 35, 36, 20, 21, 22, 23, 24, 25, 35, 26, 27, 28, 29, 30, 31, 32, 33, 34, 35, 36])⟩ [(0, (some 0)), (3, (some 3))] = some (s3, [.ask (.lt (.iv 0) (.il 2)), .ask (.eq (.iv 0) (.il 0))]) := by kernel_rfl
theorem p7 : stretch K 29 [true, false, true] s2 s3 [] ⟨[(.il 0), (.il 1), (.iv 1), (.iv 2)], [], [(.vv 0), (.vv 1), (.vv 2), (.vv 3), (.vv 4), (.vv 5), (.vv 6), (.vv 7), (.cut (.vv 3) (.il 0) (.min (.len (.vv 3)) (.il 10))), (.vv 8), (.vv 9), (.vv 10)], (Z [0, 1, 2, 3, 4, 5, 6, 7, 8, 9, 10, 11, 12, 13, 14, 15, 16, 17, 18, 19, 20, 21, 22, 23, 24, 25, 26, 27, 28, 29, 30, 31, 32, 33, 34, 35, 36, 20, 21, 22, 23, 24, 25, 36, 26, 27, 28, 29, 30, 31, 32, 33, 34, 35, 36])⟩ [(0, (some 0)), (3, (some 3))] = some (s3, [.ask (.lt (.iv 0) (.il 2)), .ask (.not (.eq (.iv 0) (.il 0))), .ask (.eq (.iv 0) (.il 1))]) := by kernel_rfl
theorem p8 : stretch K 13 [false] s2 s1 [] ⟨[(.add (.iv 2) (.il 1))], [], [(.vv 0), (.vv 1), (.vv 2), (.vv 3), (.vv 4), (.vv 5), (.vv 6)], (Z [0, 1, 2, 3, 4, 5, 6, 20, 21, 22, 26, 27, 28, 29, 30, 31, 32, 33, 34])⟩ [(0, (some 0))] = some (s1, [.ask (.not (.lt (.iv 0) (.il 2))), .ask (FT (.add (.iv 2) (.il 1)))]) := by kernel_rfl
theorem p11 : stretch K 59 [true, true, false, false] s3 s3 [] ⟨[(.il 1), (.iv 1), (.iv 2), (.iv 3)], [], [(.vv 0), (.vv 1), (.vv 2), (.vv 3), (.vv 4), (.vv 5), (.vv 6), (.vv 7), (.vv 8), (.vv 9), (.vv 10), (.vv 11)], (Z [0, 1, 2, 3, 4, 5, 6, 7, 8, 9, 10, 11, 12, 13, 14, 15, 16, 17, 18, 19, 20, 21, 22, 23, 24, 25, 26, 27, 28, 29, 30, 31, 32, 33, 34, 35, 36, 37, 38, 39, 40, 41, 42, 43, 44, 45, 46, 47, 48, 49, 50, 51, 52, 53, 54])⟩ [(0, (some 0)), (3, (some 3))] = some (s3, [.ask (.lt (.iv 0) (.il 4)), .ask (.eq (.iv 0) (.il 0)), .call 21 [(.snoc (.snoc (.snoc (.snoc .emp (.ofI (.iv 2))) (.vv 9)) (.vv 10)) (.vv 11)), (.vv 8), (.ofI (.toI (.vv 4)))], .call 22 [(.snoc (.snoc (.snoc (.snoc .emp (.ofI (.iv 2))) (.vv 9)) (.vv 10)) (.vv 11)), (.vv 8), (.ofI (.toI (.vv 4)))], .ask (.not (.not (.eq (.toI (.get (.vv 12) (.il 1))) (.toI (.get (.vv 13) (.il 1)))))), .call 23 [(.get (.vv 12) (.il 0)), (.get (.vv 13) (.il 0))], .ask (.not (.not (.toB (.vv 14))))]) := by kernel_rfl
theorem p14 : stretch K 59 [true, false, true, false, false] s3 s3 [] ⟨[(.il 2), (.iv 1), (.iv 2), (.iv 3)], [], [(.vv 0), (.vv 1), (.vv 2), (.vv 3), (.vv 4), (.vv 5), (.vv 6), (.vv 7), (.vv 8), (.vv 9), (.vv 10), (.vv 11)], (Z [0, 1, 2, 3, 4, 5, 6, 7, 8, 9, 10, 11, 12, 13, 14, 15, 16, 17, 18, 19, 20, 21, 22, 23, 24, 25, 26, 27, 28, 29, 30, 31, 32, 33, 34, 35, 36, 37, 38, 39, 40, 41, 42, 43, 44, 45, 46, 47, 48, 49, 50, 51, 52, 53, 54])⟩ [(0, (some 0)), (3, (some 3))] = some (s3, [.ask (.lt (.iv 0) (.il 4)), .ask (.not (.eq (.iv 0) (.il 0))), .ask (.eq (.iv 0) (.il 1)), .call 21 [(.snoc (.snoc (.snoc (.snoc .emp (.ofI (.iv 2))) (.vv 9)) (.vv 10)) (.vv 11)), (.vv 8), (.ofI (.rem (.toI (.vv 4)) (.il 9)))], .call 22 [(.snoc (.snoc (.snoc (.snoc .emp (.ofI (.iv 2))) (.vv 9)) (.vv 10)) (.vv 11)), (.vv 8), (.ofI (.rem (.toI (.vv 4)) (.il 9)))], .ask (.not (.not (.eq (.toI (.get (.vv 12) (.il 1))) (.toI (.get (.vv 13) (.il 1)))))), .call 23 [(.get (.vv 12) (.il 0)), (.get (.vv 13) (.il 0))], .ask (.not (.not (.toB (.vv 14))))]) := by kernel_rfl
theorem p17 : stretch K 59 [true, false, false, true, false, false] s3 s3 [] ⟨[(.il 3), (.iv 1), (.iv 2), (.iv 3)], [], [(.vv 0), (.vv 1), (.vv 2), (.vv 3), (.vv 4), (.vv 5), (.vv 6), (.vv 7), (.vv 8), (.vv 9), (.vv 10), (.vv 11)], (Z [0, 1, 2, 3, 4, 5, 6, 7, 8, 9, 10, 11, 12, 13, 14, 15, 16, 17, 18, 19, 20, 21, 22, 23, 24, 25, 26, 27, 28, 29, 30, 31, 32, 33, 34, 35, 36, 37, 38, 39, 40, 41, 42, 43, 44, 45, 46, 47, 48, 49, 50, 51, 52, 53, 54])⟩ [(0, (some 0)), (3, (some 3))] = some (s3, [.ask (.lt (.iv 0) (.il 4)), .ask (.not (.eq (.iv 0) (.il 0))), .ask (.not (.eq (.iv 0) (.il 1))), .ask (.eq (.iv 0) (.il 2)), .call 21 [(.snoc (.snoc (.snoc (.snoc .emp (.ofI (.iv 2))) (.vv 9)) (.vv 10)) (.vv 11)), (.vv 8), (.ofI (.min (.toI (.vv 4)) (.il (-1))))], .call 22 [(.snoc (.snoc (.snoc (.snoc .emp (.ofI (.iv 2))) (.vv 9)) (.vv 10)) (.vv 11)), (.vv 8), (.ofI (.min (.toI (.vv 4)) (.il (-1))))], .ask (.not (.not (.eq (.toI (.get (.vv 12) (.il 1))) (.toI (.get (.vv 13) (.il 1)))))), .call 23 [(.get (.vv 12) (.il 0)), (.get (.vv 13) (.il 0))], .ask (.not (.not (.toB (.vv 14))))]) := by kernel_rfl
theorem p20 : stretch K 59 [true, false, false, false, true, false, false] s3 s3 [] ⟨[(.il 4), (.iv 1), (.iv 2), (.iv 3)], [], [(.vv 0), (.vv 1), (.vv 2), (.vv 3), (.vv 4), (.vv 5), (.vv 6), (.vv 7), (.vv 8), (.vv 9), (.vv 10), (.vv 11)], (Z [0, 1, 2, 3, 4, 5, 6, 7, 8, 9, 10, 11, 12, 13, 14, 15, 16, 17, 18, 19, 20, 21, 22, 23, 24, 25, 26, 27, 28, 29, 30, 31, 32, 33, 34, 35, 36, 37, 38, 39, 40, 41, 42, 43, 44, 45, 46, 47, 48, 49, 50, 51, 52, 53, 54])⟩ [(0, (some 0)), (3, (some 3))] = some (s3, [.ask (.lt (.iv 0) (.il 4)), .ask (.not (.eq (.iv 0) (.il 0))), .ask (.not (.eq (.iv 0) (.il 1))), .ask (.not (.eq (.iv 0) (.il 2))), .ask (.eq (.iv 0) (.il 3)), .call 21 [(.snoc (.snoc (.snoc (.snoc .emp (.ofI (.iv 2))) (.vv 9)) (.vv 10)) (.vv 11)), (.vv 8), (.ofI (.max (.toI (.vv 4)) (.il 9)))], .call 22 [(.snoc (.snoc (.snoc (.snoc .emp (.ofI (.iv 2))) (.vv 9)) (.vv 10)) (.vv 11)), (.vv 8), (.ofI (.max (.toI (.vv 4)) (.il 9)))], .ask (.not (.not (.eq (.toI (.get (.vv 12) (.il 1))) (.toI (.get (.vv 13) (.il 1)))))), .call 23 [(.get (.vv 12) (.il 0)), (.get (.vv 13) (.il 0))], .ask (.not (.not (.toB (.vv 14))))]) := by kernel_rfl
theorem p21 : stretch K 13 [false] s3 s2 [] ⟨[(.add (.iv 1) (.il 1)), (.iv 2), (.iv 3)], [], [(.vv 0), (.vv 1), (.vv 2), (.vv 3), (.vv 4), (.vv 5), (.vv 6), (.vv 7), (.vv 9), (.vv 10), (.vv 11)], (Z [0, 1, 2, 3, 4, 5, 6, 7, 8, 9, 10, 11, 12, 13, 14, 15, 16, 17, 18, 19, 37, 38, 39, 40, 41, 42, 44, 45, 46, 47, 48, 49, 50, 51, 52, 53, 54])⟩ [(0, (some 0)), (3, (some 3))] = some (s2, [.ask (.not (.lt (.iv 0) (.il 4))), .ask (FT (.add (.iv 1) (.il 1)))]) := by kernel_rfl
theorem b : sbegin prog 4 = some s0 := by kernel_rfl
end HiddenPredicts
end X
namespace X
end X
namespace Go.Sym
open Go Go.Abs
open Go.RowKit (Below)
theorem WRel.grow {μ : Mu} {I : Imm} {w0 w w' : World} {h : Heap} (W : WRel μ I w0 h w) (b : Below w.heap.size w w') : WRel μ I w0 h w' := by
 refine ⟨W.below.trans (b.mono W.below.size), W.live, fun c B o N e => ?_, fun c ob B o N e m => ?_, W.inj, fun B o v e => ?_⟩
 ·obtain ⟨h1, h2, h3⟩ := W.mapped c B o N e
  exact ⟨h1, Nat.lt_of_lt_of_le h2 b.size, h3⟩
 ·obtain ⟨obj, h1, h2⟩ := W.objs c ob B o N e m
  exact ⟨obj, by rw [b.block _ (W.mapped c B o N m).2.1]; exact h1, h2⟩
 ·obtain ⟨h1, _, h3⟩ := W.imm B o v e
  refine ⟨?_, rfl, h3⟩
  have hlt : B < w.heap.size := by
   apply Decidable.byContradiction
   intro hq
   have hno : w.heap[B]? = none := Array.getElem?_eq_none (by omega)
   simp [World.cell?, hno] at h1
  have := b.cell (p := ⟨B, o, none⟩) hlt
  rw [this]; exact h1
noncomputable def doneT (P : Program) (f : FuncId) (t : Tmp) (b : Bool) (m : AMach) : Bool :=
 match m.callers, m.fr.mode, m.fr.defers, m.fr.roundOf with
 | [], .returning, [], none => Nat.beq m.fr.fn f && !m.fr.deferred && (match m.fr.tm.get t with | some (.bool c) => c == b | _ => false)
 | _, _, _, _ => false
noncomputable def endF (f nt t : Nat) (b : Bool) : AFrame := { fn := f, nt, tm := Tr.nil.set t (.bool b), todo := [], defers := [], mode := .returning, deferred := false, roundOf := none }
theorem leads_closed {P : Program} {f : FuncId} {g : AFrame} {m : AMach} {t : Tmp} {b : Bool} (hg : enter P f [] false = some g) (h1 : Leads P ⟨g, [], ⟨0, .nil⟩⟩ m) (h2 : doneT P f t b m = true) (h : Heap) (callers : List AFrame) :
  Leads P ⟨g, callers, h⟩ ⟨endF f m.fr.nt t b, callers, h⟩ := by
 intro I _ w0 μ c cs tl w r
 obtain ⟨⟨lo, hlo, hF, hS⟩, hW⟩ := r
 simp only at hlo hF hS hW
 unfold enter at hg
 split at hg
 case h_2 => cases hg
 rename_i fn hfn
 split at hg
 case h_2 => cases hg
 rename_i body hb
 obtain ⟨_, hg⟩ := cond_ok hg
 cases hg
 -- the frame, alone
 have hcm : c.mode = .run /\ TodoRel P μ I h true lo h.next [.code body] (enter.setAll .nil 0 []) c.todo c.tmps := by
  have := hF.st
  cases this with | run a b => exact ⟨a, b⟩
 have htd : c.todo = [.code body] := by
  have h := hcm.2
  generalize c.todo = ct at h
  generalize c.tmps = cm at h
  cases h with
  | plain a b =>
   cases a with
   | cons x y =>
    cases y
    cases x
    rfl
 have hround : c.roundOf = none := by
  have h := hF.round
  generalize c.roundOf = cr at h
  simp only at h
  cases h; rfl
 have hdef : c.defers = [] := by
  have h := hF.defers
  generalize c.defers = cd at h
  simp only at h
  cases h; rfl
 have r0 : MRel P (fun _ => none) I w ⟨{ fn := f, nt := fn.ntmps, tm := enter.setAll .nil 0 [], todo := [.code body], defers := [], mode := .run, deferred := false, roundOf := none }, [], ⟨0, .nil⟩⟩ c [] w := by
  refine ⟨⟨0, Nat.le_refl _, ⟨hF.fn, hF.has, hF.kind, ?_, ?_, hF.size, ?_⟩, .nil⟩, start_rel w fun B o v e => (hW.imm B o v e).1⟩
  ·rw [hround]; exact .none
  ·rw [hdef]; exact .nil
  ·refine .run hcm.1 ?_
   rw [htd]
   exact .plain (.cons (.code _) .nil) (fun t v e => by rw [enter.setAll, Tr.get_nil] at e; cases e)
 obtain ⟨μ', c', cs', w', s, ⟨⟨lo', hlo', hF', hS'⟩, hW'⟩⟩ := h1 I w _ c [] (cs ++ tl) w r0
 unfold doneT at h2
 split at h2
 case h_2 => cases h2
 rename_i hc hm hd hro
 simp only [Bool.and_eq_true, Bool.not_eq_true'] at h2
 obtain ⟨⟨k1, k2⟩, k3⟩ := h2
 have k1 := beq_tt k1
 rw [hc] at hS'
 cases hS'
 refine ⟨μ, c', cs, w', by simpa using s, ⟨⟨lo, hlo, ⟨?_, ⟨fn, hfn⟩, ?_, ?_, ?_, hF'.size, ?_⟩, hS⟩, WRel.grow hW hW'.below⟩⟩
 ·rw [hF'.fn, k1]; rfl
 ·rw [hF'.kind, k2]; rfl
 ·have h := hF'.round
  rw [hro] at h
  generalize c'.roundOf = cr at h
  cases h
  exact .none
 ·have h := hF'.defers
  rw [hd] at h
  generalize c'.defers = cd at h
  cases h; exact .nil
 ·have hst := hF'.st
  rw [hm] at hst
  cases hst with
  | ret a z =>
   refine .ret a ?_
   intro t' v e
   simp only [endF] at e
   rw [Tr.get_set, Tr.get_nil] at e
   split at e
   ·rename_i ht
    cases e
    subst ht
    split at k3
    ·rename_i c2 hq
     have hv := z _ _ hq
     have : c2 = b := by simpa using k3
     subst this
     generalize c'.tmps.getD t' undef = u at hv
     cases hv
     exact .bool _
    ·cases k3
   ·cases e
theorem fn_closed {P : Program} {f : FuncId} {g : AFrame} {m : AMach} {t : Tmp} {b : Bool} (hg : enter P f [] false = some g) (h1 : Leads P ⟨g, [], ⟨0, .nil⟩⟩ m) (h2 : doneT P f t b m = true)
  (hs : (match P.funcs[f]? with | some fn => (match fn.params.toList, fn.resultTypes.toList, fn.results.toList with | [], [rt], [.tmp t'] => Nat.beq t' t && decide (sizeT P rt = some 1) && (match P.underlying rt with | some .bool => true | _ => false) | _, _, _ => false) | none => false) = true) : Fn P f [] (.bool b) := by
 intro h S as_ fn hfn hS hno ga
 rw [hfn] at hs
 simp only at hs
 split at hs
 case h_2 => cases hs
 rename_i rt t' hp hr hres
 simp only [Bool.and_eq_true, decide_eq_true_eq] at hs
 obtain ⟨⟨e1, e2⟩, e3⟩ := hs
 have e1 := beq_tt e1
 subst e1
 rw [hp] at ga
 cases ga
 split at e3
 case h_2 => cases e3
 rename_i hu
 refine ⟨g, hg, fun callers => ⟨endF f m.fr.nt t' b, h, [.bool b], Nat.le_refl _, fun _ _ => rfl, hno, ?_, rfl, rfl, rfl, rfl, ?_, leads_closed hg h1 h2 h callers⟩⟩
 ·rw [hr]
  exact ⟨_, rfl, [.bool b], ⟨e2, by rw [hu]; exact ⟨b, rfl, rfl⟩⟩, .inr ⟨by simp [isAggT, hu], rfl⟩⟩
 ·rw [hres]
  have : tmGet (endF f m.fr.nt t' b).tm t' = .bool b := by
   simp only [endF, tmGet]
   rw [Tr.get_set]; simp
  simp [aresults, this]
end Go.Sym
namespace Go.Abs
open Go.ChangeShapes Go.WideShapes
open Go.RowKit (Below)
end Go.Abs
namespace Go.Sym
open Go Go.Abs
open Go.RowKit (Below)
def WT (P : Program) : Nat -> TypeId -> V -> Prop
 | 0, _, _ => False
 | d + 1, t, x => match P.underlying t with
  | some (.int k) => ∃ n, x = .int n /\ k.min <= n /\ n <= k.max
  | some .bool => ∃ b, x = .bool b
  | some .string => ∃ s, x = .str s
  | some (.slice et) => x = .nil \/ ∃ l, x = .list l /\ l.length <= Go.maxLen /\ ∀ y ∈ l, WT P d et y
  | some (.struct fields) => ∃ xs, x = .list xs /\ xs.length = fields.toList.length /\ ∀ (i : Nat) f y, fields.toList[i]? = some f -> xs[i]? = some y -> WT P d f.type y
  | some (.array n et) => ∃ xs, x = .list xs /\ xs.length = n /\ ∀ y ∈ xs, WT P d et y
  | _ => False
inductive WTs (P : Program) : List TypeId -> List V -> Prop
 | nil : WTs P [] []
 | cons {t : TypeId} {x : V} {ts : List TypeId} {xs : List V} : WT P deep t x -> WTs P ts xs -> WTs P (t :: ts) (x :: xs)
def tyOk (P : Program) : Nat -> TypeId -> Bool
 | 0, _ => false
 | d + 1, t => match sizeT P t with
  | none => false
  | some n => match P.underlying t with
   | some (.int _) | some .bool | some .string => Nat.beq n 1
   | some (.slice et) => Nat.beq n 1 && (match sizeT P et with | some (_ + 1) => true | _ => false) && tyOk P d et
   | some (.struct fields) => decide (tight P fields.toList 0 = some n) && fields.toList.all fun f => tyOk P d f.type
   | some (.array m et) => match sizeT P et with
    | some s => Nat.beq n (m * s) && tyOk P d et
    | none => false
   | _ => false
theorem mapM_range' {α : Type} {f : Nat -> Option α} : ∀ {n j : Nat} {l : List α}, (List.range' j n).mapM f = some l -> l.length = n /\ ∀ i x, l[i]? = some x -> f (j + i) = some x
 | 0, j, l, e => by simp at e; subst e; exact ⟨rfl, fun i x h => by simp at h⟩
 | n + 1, j, l, e => by
  rw [List.range'_succ, List.mapM_cons] at e
  simp only [Option.bind_eq_bind, Option.bind_eq_some_iff, Option.pure_def, Option.some.injEq] at e
  obtain ⟨a, h1, r, h2, rfl⟩ := e
  obtain ⟨k1, k2⟩ := mapM_range' h2
  refine ⟨by simp [k1], fun i x hx => ?_⟩
  cases i with
  | zero => simp at hx; subst hx; exact h1
  | succ i => rw [show j + (i + 1) = j + 1 + i from by omega]; exact k2 i x (by simpa using hx)
theorem mapM_range {α : Type} {f : Nat -> Option α} {n : Nat} {l : List α} (e : (List.range n).mapM f = some l) : l.length = n /\ ∀ i x, l[i]? = some x -> f i = some x := by
 rw [List.range_eq_range'] at e
 obtain ⟨h1, h2⟩ := mapM_range' e
 exact ⟨h1, fun i x hx => by simpa using h2 i x hx⟩
section
variable {H : Type} {enc : TypeId × Value -> H} {P : Program} {w : World} {sp : Nat -> Bool} {held : Bool}
def memOf (w : World) : Imm := fun B o => w.cell? ⟨B, o, none⟩
def noB : Nat -> Prop := fun _ => False
def noMu : Mu := fun _ => none
noncomputable def noH : Heap := ⟨0, .nil⟩
theorem cell_spot {a : Addr} {v : Value} (e : w.cell? a = some v) : a = ⟨a.block, a.off, none⟩ := by
 obtain ⟨b, o, s⟩ := a
 cases s with
 | none => rfl
 | some s => unfold World.cell? at e; split at e <;> simp at e
theorem add_add (b o n : Nat) : (Addr.mk b o none).add n = ⟨b, o + n, none⟩ := Abs.add_none b o n
theorem VRels.icells {acs : List AV} {cs : List Value} {I : Imm} {B : Nat} : ∀ {o : Nat}, VRels noMu I acs cs -> (∀ k v, cs[k]? = some v -> I B (o + k) = some v) -> ICells noMu I acs B o := by
 induction acs generalizing cs with
 | nil => intro o g h; exact .nil
 | cons a acs ih =>
  intro o g h
  cases g with
  | cons g1 g2 =>
   refine .cons (h 0 _ rfl) g1 (ih g2 fun k v hk => ?_)
   rw [show o + 1 + k = o + (k + 1) from by omega]
   exact h (k + 1) v (by simpa using hk)
theorem ICells.append {I : Imm} {B : Nat} {x y : List AV} : ∀ {o : Nat}, ICells noMu I x B o -> ICells noMu I y B (o + x.length) -> ICells noMu I (x ++ y) B o := by
 induction x with
 | nil => intro o _ h; simpa using h
 | cons a x ih =>
  intro o g h
  cases g with
  | cons g0 g1 g2 => exact .cons g0 g1 (ih g2 (by rw [show o + 1 + x.length = o + (a :: x).length from by simp; omega]; exact h))
theorem trod_rel : ∀ {d fuel : Nat} {t : TypeId} {cs : List Value} {dd : DataW H} {ps : List MemPlace}, tyOk P d t = true -> DataW.trod enc P w 0 (fun _ => true) held fuel t cs = some (dd, ps) -> sizeT P t = some cs.length ->
  ∃ x acs, WT P d t x /\ VRels noMu (memOf w) acs cs /\ PV P noH noB d t x acs
 | 0, _, _, _, _, _, e, _, _ => by simp [tyOk] at e
 | d + 1, 0, _, _, _, _, _, e, _ => by simp [DataW.trod] at e
 | d + 1, fuel + 1, t, cs, dd, ps, ht, e, hsz => by
  have ih := @trod_rel d
  unfold tyOk at ht
  rw [hsz] at ht
  simp only at ht
  unfold DataW.trod at e
  cases hu : P.underlying t with
  | none => rw [hu] at ht; cases ht
  | some td =>
  rw [hu] at ht e
  have mkPV : ∀ {x : V} {acs : List AV}, acs.length = cs.length -> (match some td with
    | some (.int k) => ∃ n, x = .int n /\ acs = [.int k n]
    | some .bool => ∃ b, x = .bool b /\ acs = [.bool b]
    | some .string => ∃ s, x = .str s /\ acs = [.str s]
    | some (.slice et) => ∃ av sz, acs = [av] /\ sizeT P et = some sz /\ 0 < sz /\ PSl noH noB sz (PV P noH noB d et) x av
    | some (.struct fields) => ∃ xs, x = .list xs /\ PFl P (PV P noH noB d) fields.toList 0 xs acs
    | some (.array n et) => ∃ xs sz, x = .list xs /\ xs.length = n /\ sizeT P et = some sz /\ PRow sz (PV P noH noB d et) xs acs
    | _ => False) -> PV P noH noB (d + 1) t x acs := by
   intro x acs hl h
   refine ⟨by rw [hsz, hl], ?_⟩
   rw [hu]
   exact h
  have wt : ∀ {x : V}, (match some td with
    | some (.int k) => ∃ n, x = .int n /\ k.min <= n /\ n <= k.max
    | some .bool => ∃ b, x = .bool b
    | some .string => ∃ s, x = .str s
    | some (.slice et) => x = .nil \/ ∃ l, x = .list l /\ l.length <= Go.maxLen /\ ∀ y ∈ l, WT P d et y
    | some (.struct fields) => ∃ xs, x = .list xs /\ xs.length = fields.toList.length /\ ∀ (i : Nat) f y, fields.toList[i]? = some f -> xs[i]? = some y -> WT P d f.type y
    | some (.array n et) => ∃ xs, x = .list xs /\ xs.length = n /\ ∀ y ∈ xs, WT P d et y
    | _ => False) -> WT P (d + 1) t x := by
   intro x h
   unfold WT
   rw [hu]
   exact h
  cases td <;> simp only at ht <;> first | (cases ht; done) | skip
  case bool =>
   obtain ⟨v, rfl⟩ : ∃ v, cs = [v] := List.length_eq_one_iff.1 (beq_tt ht)
   cases v <;> simp at e
   rename_i b
   exact ⟨.bool b, [.bool b], wt ⟨b, rfl⟩, .cons (.bool b) .nil, mkPV rfl ⟨b, rfl, rfl⟩⟩
  case int k =>
   obtain ⟨v, rfl⟩ : ∃ v, cs = [v] := List.length_eq_one_iff.1 (beq_tt ht)
   cases v <;> simp at e
   rename_i k' n
   obtain ⟨⟨rfl, hw⟩, _⟩ := e
   simp only [Lit.wf, Bool.and_eq_true, decide_eq_true_eq] at hw
   exact ⟨.int n, [.int k' n], wt ⟨n, rfl, hw.1, hw.2⟩, .cons (.int k' n) .nil, mkPV rfl ⟨n, rfl, rfl⟩⟩
  case string =>
   obtain ⟨v, rfl⟩ : ∃ v, cs = [v] := List.length_eq_one_iff.1 (beq_tt ht)
   cases v <;> simp at e
   rename_i s
   exact ⟨.str s, [.str s], wt ⟨s, rfl⟩, .cons (.str s) .nil, mkPV rfl ⟨s, rfl, rfl⟩⟩
  case slice et =>
   simp only [Bool.and_eq_true] at ht
   obtain ⟨⟨h1, h2⟩, h3⟩ := ht
   obtain ⟨v, rfl⟩ : ∃ v, cs = [v] := List.length_eq_one_iff.1 (beq_tt h1)
   obtain ⟨sz, hs, hpos⟩ : ∃ sz, sizeT P et = some sz /\ 0 < sz := by
    split at h2
    ·rename_i q hq; exact ⟨_, hq, by omega⟩
    ·cases h2
   have hco : P.cellsOf et = sz := by simp [Program.cellsOf]; simp [sizeT] at hs; obtain ⟨i, hi, rfl⟩ := hs; simp [hi]
   cases v <;> simp at e
   rename_i a len cap
   cases a with
   | none =>
    cases len with
    | zero =>
     cases cap with
     | zero => exact ⟨.nil, [.nils], wt (.inl rfl), .cons .nils .nil, mkPV rfl ⟨_, sz, rfl, hs, hpos, .inl ⟨rfl, rfl⟩⟩⟩
     | succ c => simp at e
    | succ l => simp at e
   | some a =>
    simp only [Option.ite_none_right_eq_some] at e
    obtain ⟨⟨hlc, hcm⟩, e⟩ := e
    simp only [Option.bind_eq_some_iff, Option.map_eq_some_iff] at e
    obtain ⟨els, e1, rest, e2, e3⟩ := e
    rw [hco] at e1 e2
    obtain ⟨k1, k2⟩ := mapM_range e1
    obtain ⟨r1, r2⟩ := mapM_range e2
    -- an element that is there
    have hadd : ∀ n, (a.add n).block = a.block /\ (a.add n).off = a.off + n := by
     intro n; unfold Addr.add; split
     ·rename_i h; subst h; exact ⟨rfl, rfl⟩
     ·exact ⟨rfl, rfl⟩
    have elem : ∀ (i : Nat) y, (w.cells? 0 (a.add (i * sz)) sz).bind (DataW.trod enc P w 0 (fun _ => true) held fuel et) = some y -> a.add (i * sz) = ⟨a.block, a.off + i * sz, none⟩ /\ ∃ x acs, WT P d et x /\ acs.length = sz /\ ICells noMu (memOf w) acs a.block (a.off + i * sz) /\ PV P noH noB d et x acs := by
     intro i y hy
     simp only [Option.bind_eq_some_iff] at hy
     obtain ⟨ecs, c1, c2⟩ := hy
     simp only [World.cells?, Nat.zero_le, if_true] at c1
     obtain ⟨m1, m2⟩ := mapM_range c1
     have hsp : a.add (i * sz) = ⟨a.block, a.off + i * sz, none⟩ := by
      cases hec : ecs with
      | nil => rw [hec] at m1; simp at m1; omega
      | cons v0 ecs' =>
       have h0 := m2 0 v0 (by rw [hec]; rfl)
       have h0' : w.cell? (a.add (i * sz)) = some v0 := by
        have : (a.add (i * sz)).add 0 = a.add (i * sz) := by unfold Addr.add; simp
        rwa [this] at h0
       have := cell_spot h0'
       rw [(hadd _).1, (hadd _).2] at this
       exact this
     obtain ⟨x, acs, p1, p2, p3⟩ := ih (dd := y.1) (ps := y.2) h3 c2 (by rw [hs, m1])
     refine ⟨hsp, x, acs, p1, by rw [p2.length, m1], VRels.icells p2 fun k v hk => ?_, p3⟩
     have := m2 k v hk
     rw [hsp, add_add] at this
     exact this
    have rows : ∀ (l : List (DataW H × List MemPlace)) (j : Nat), (∀ i y, l[i]? = some y -> (w.cells? 0 (a.add ((j + i) * sz)) sz).bind (DataW.trod enc P w 0 (fun _ => true) held fuel et) = some y) ->
      ∃ xs acs, xs.length = l.length /\ (∀ y ∈ xs, WT P d et y) /\ PRow sz (PV P noH noB d et) xs acs /\ ICells noMu (memOf w) acs a.block (a.off + j * sz) := by
     intro l
     induction l with
     | nil => intro j _; exact ⟨[], [], rfl, by simp, rfl, .nil⟩
     | cons y l ihl =>
      intro j hl
      obtain ⟨_, x, acs, p1, p2, p3, p4⟩ := elem j y (hl 0 y rfl)
      obtain ⟨xs, acs', q1, q2, q3, q4⟩ := ihl (j + 1) fun i z hz => by
       rw [show j + 1 + i = j + (i + 1) from by omega]; exact hl (i + 1) z (by simpa using hz)
      refine ⟨x :: xs, acs ++ acs', by simp [q1], ?_, ⟨acs, acs', rfl, p2, p4, q3⟩, ICells.append p3 ?_⟩
      ·intro z hz
       rcases List.mem_cons.1 hz with rfl | hz
       ·exact p1
       ·exact q2 z hz
      ·rw [p2, show a.off + j * sz + sz = a.off + (j + 1) * sz from by rw [Nat.succ_mul]; omega]; exact q4
    obtain ⟨xs, acs, q1, q2, q3, q4⟩ := rows els 0 fun i y hy => by rw [Nat.zero_add]; exact k2 i y hy
    rw [Nat.zero_mul, Nat.add_zero] at q4
    have hxl : xs.length = len := by rw [q1, k1]
    refine ⟨.list xs, [.vslice acs len sz], wt (.inr ⟨xs, rfl, by omega, q2⟩), .cons ?_ .nil, mkPV rfl ⟨_, sz, rfl, hs, hpos, .inr ⟨xs, rfl, .inr ⟨acs, [], by rw [hxl], by simpa using q3⟩⟩⟩⟩
    have spot : 0 < cap -> a = ⟨a.block, a.off, none⟩ := by
     intro hc
     have key : ∀ y, (w.cells? 0 (a.add (0 * sz)) sz).bind (DataW.trod enc P w 0 (fun _ => true) held fuel et) = some y -> a = ⟨a.block, a.off, none⟩ := by
      intro y hy
      have := (elem 0 y hy).1
      rw [Nat.zero_mul] at this
      have h0 : a.add 0 = a := by unfold Addr.add; simp
      rw [h0] at this
      simpa using this
     cases hels : els with
     | cons y els' => exact key y (k2 0 y (by rw [hels]; rfl))
     | nil =>
      rw [hels] at k1
      have hl0 : len = 0 := by simpa using k1.symm
      subst hl0
      cases hrest : rest with
      | nil => rw [hrest] at r1; simp at r1; omega
      | cons y rest' => exact key y (by have := r2 0 y (by rw [hrest]; rfl); simpa using this)
    by_cases hc : cap = 0
    ·subst hc
     have : len = 0 := by omega
     subst this
     exact .vslice0
    ·have hsp := spot (by omega)
     rw [hsp]
     exact .vslice q4 hlc
  case struct fields =>
   simp only [Bool.and_eq_true, decide_eq_true_eq, List.all_eq_true] at ht
   obtain ⟨h1, h2⟩ := ht
   have hco : P.cellsOf t = cs.length := by simp [Program.cellsOf]; simp [sizeT] at hsz; obtain ⟨i, hi, q⟩ := hsz; simp [hi, q]
   have e' : (if cs.length = P.cellsOf t then (fields.toList.mapM fun f => DataW.trod enc P w 0 (fun _ => true) held fuel f.type ((cs.drop f.offset).take (P.cellsOf f.type))).map (fun xs => ((DataW.agg (xs.map (·.1)) : DataW H), xs.flatMap (·.2))) else none) = some (dd, ps) := by
    cases cs with
    | nil => exact e
    | cons c cs => exact e
   rw [if_pos hco.symm] at e'
   simp only [Option.map_eq_some_iff] at e'
   obtain ⟨l, e1, _⟩ := e'
   have key : ∀ (fs : List Field) (pos : Nat) (l : List (DataW H × List MemPlace)), (∀ f ∈ fs, tyOk P d f.type = true) -> tight P fs pos = some cs.length -> (fs.mapM fun f => DataW.trod enc P w 0 (fun _ => true) held fuel f.type ((cs.drop f.offset).take (P.cellsOf f.type))) = some l ->
     ∃ xs acs, xs.length = fs.length /\ (∀ (i : Nat) f y, fs[i]? = some f -> xs[i]? = some y -> WT P d f.type y) /\ VRels noMu (memOf w) acs (cs.drop pos) /\ PFl P (PV P noH noB d) fs pos xs acs /\ pos <= cs.length := by
    intro fs
    induction fs with
    | nil =>
     intro pos l _ hp _
     simp [tight] at hp
     subst hp
     exact ⟨[], [], rfl, by simp, by rw [List.drop_length]; exact .nil, ⟨rfl, rfl⟩, Nat.le_refl _⟩
    | cons f fs ihf =>
     intro pos l hf hp hl
     unfold tight at hp
     split at hp
     ·rename_i s hs
      obtain ⟨ho, hp⟩ := cond_ok hp
      have ho := beq_tt ho
      rw [List.mapM_cons] at hl
      simp only [Option.bind_eq_bind, Option.bind_eq_some_iff, Option.pure_def, Option.some.injEq] at hl
      obtain ⟨y, y1, r, y2, _⟩ := hl
      obtain ⟨xs, acs, q1, q2, q3, q4, q5⟩ := ihf (pos + s) r (fun g hg => hf g (by simp [hg])) hp y2
      have hcf : P.cellsOf f.type = s := by simp [Program.cellsOf]; simp [sizeT] at hs; obtain ⟨i, hi, q⟩ := hs; simp [hi, q]
      rw [hcf, ho] at y1
      have hlen : ((cs.drop pos).take s).length = s := by simp; omega
      obtain ⟨x, bcs, p1, p2, p3⟩ := ih (dd := y.1) (ps := y.2) (hf f (by simp)) y1 (by rw [hs, hlen])
      have hb : bcs.length = s := by rw [p2.length, hlen]
      refine ⟨x :: xs, bcs ++ acs, by simp [q1], ?_, ?_, ⟨x, xs, bcs, acs, rfl, rfl, ho, p3, by rw [hb]; exact q4⟩, by omega⟩
      ·intro i g z hg hz
       cases i with
       | zero => simp at hg hz; subst hg; subst hz; exact p1
       | succ i => exact q2 i g z (by simpa using hg) (by simpa using hz)
      ·have := p2.append q3
       rw [<- List.drop_drop, List.take_append_drop] at this
       exact this
     ·cases hp
   obtain ⟨xs, acs, q1, q2, q3, q4, _⟩ := key fields.toList 0 l h2 h1 e1
   rw [List.drop_zero] at q3
   exact ⟨.list xs, acs, wt ⟨xs, rfl, q1, q2⟩, q3, mkPV q3.length ⟨xs, rfl, q4⟩⟩
  case array n et =>
   split at ht
   ·rename_i s hs
    simp only [Bool.and_eq_true] at ht
    obtain ⟨h1, h2⟩ := ht
    have h1 := beq_tt h1
    have hco : P.cellsOf t = cs.length := by simp [Program.cellsOf]; simp [sizeT] at hsz; obtain ⟨i, hi, q⟩ := hsz; simp [hi, q]
    have hce : P.cellsOf et = s := by simp [Program.cellsOf]; simp [sizeT] at hs; obtain ⟨i, hi, q⟩ := hs; simp [hi, q]
    have e' : (if cs.length = P.cellsOf t then ((List.range n).mapM fun i => DataW.trod enc P w 0 (fun _ => true) held fuel et ((cs.drop (i * P.cellsOf et)).take (P.cellsOf et))).map (fun xs => ((DataW.agg (xs.map (·.1)) : DataW H), xs.flatMap (·.2))) else none) = some (dd, ps) := by
     cases cs with
     | nil => exact e
     | cons c cs => exact e
    rw [if_pos hco.symm, hce] at e'
    simp only [Option.map_eq_some_iff] at e'
    obtain ⟨l, e1, _⟩ := e'
    obtain ⟨k1, k2⟩ := mapM_range e1
    have key : ∀ (m j : Nat), j + m = n -> ∃ xs acs, xs.length = m /\ (∀ y ∈ xs, WT P d et y) /\ VRels noMu (memOf w) acs (cs.drop (j * s)) /\ PRow s (PV P noH noB d et) xs acs := by
     intro m
     induction m with
     | zero =>
      intro j hj
      have : j = n := by omega
      subst this
      exact ⟨[], [], rfl, by simp, by rw [List.drop_eq_nil_of_le (by omega)]; exact .nil, rfl⟩
     | succ m ihm =>
      intro j hj
      obtain ⟨xs, acs, q1, q2, q3, q4⟩ := ihm (j + 1) (by omega)
      have hjl : j < l.length := by omega
      have y1 := k2 j l[j] (by simp [hjl])
      have hle : (j + 1) * s <= n * s := Nat.mul_le_mul_right _ (by omega)
      have hlen : ((cs.drop (j * s)).take s).length = s := by
       rw [Nat.succ_mul] at hle
       simp; omega
      obtain ⟨x, bcs, p1, p2, p3⟩ := ih (dd := l[j].1) (ps := l[j].2) h2 y1 (by rw [hs, hlen])
      refine ⟨x :: xs, bcs ++ acs, by simp [q1], ?_, ?_, ⟨bcs, acs, rfl, by rw [p2.length, hlen], p3, q4⟩⟩
      ·intro z hz
       rcases List.mem_cons.1 hz with rfl | hz
       ·exact p1
       ·exact q2 z hz
      ·have := p2.append q3
       rw [Nat.succ_mul, <- List.drop_drop, List.take_append_drop] at this
       exact this
    obtain ⟨xs, acs, q1, q2, q3, q4⟩ := key n 0 (by omega)
    rw [Nat.zero_mul, List.drop_zero] at q3
    exact ⟨.list xs, acs, wt ⟨xs, rfl, q1, q2⟩, q3, mkPV q3.length ⟨xs, s, rfl, q1, hs, q4⟩⟩
   ·cases ht
theorem arg_rel {t : TypeId} {v : Value} {dd : DataW H} {ps : List MemPlace} (ht : tyOk P deep t = true) (hv : Value.okWide P w .any 0 t v) (e : DataW.Trod enc P w 0 (fun _ => true) held t v dd ps) :
  ∃ x a, WT P deep t x /\ VRel noMu (memOf w) a v /\ PVal P noH noB t x a := by
 obtain ⟨fuel, e⟩ := e
 have hag : (isAggT P t = some true /\ ∃ cs, v = .agg cs /\ cs.size = P.cellsOf t) \/ (isAggT P t = some false /\ v.cells.toList = [v] /\ sizeT P t = some 1) := by
  unfold tyOk deep at ht
  simp only at ht
  cases hs : sizeT P t with
  | none => rw [hs] at ht; cases ht
  | some n =>
   rw [hs] at ht
   simp only at ht
   cases hu : P.underlying t with
   | none => rw [hu] at ht; cases ht
   | some td =>
    rw [hu] at ht
    cases td <;> simp only at ht <;> first | (cases ht; done) | skip
    case bool =>
     have := beq_tt ht; subst this
     obtain ⟨b, rfl⟩ := Go.WideShapes.okWide_bool hu hv
     exact .inr ⟨by simp [isAggT, hu], rfl, rfl⟩
    case int k =>
     have := beq_tt ht; subst this
     obtain ⟨b, rfl⟩ := Go.WideShapes.okWide_int hu hv
     exact .inr ⟨by simp [isAggT, hu], rfl, rfl⟩
    case string =>
     have := beq_tt ht; subst this
     obtain ⟨b, rfl⟩ := Go.WideShapes.okWide_string hu hv
     exact .inr ⟨by simp [isAggT, hu], rfl, rfl⟩
    case slice et =>
     simp only [Bool.and_eq_true] at ht
     have := beq_tt ht.1.1; subst this
     obtain ⟨a, l, c, rfl⟩ := Go.WideShapes.okWide_slice hu hv
     exact .inr ⟨by simp [isAggT, hu], rfl, rfl⟩
    case struct fields =>
     obtain ⟨cs, h1, h2⟩ := Go.WideShapes.okWide_struct hu hv
     exact .inl ⟨by simp [isAggT, hu], cs, h1, h2⟩
    case array m et =>
     have hv' := hv
     unfold Value.okWide at hv'
     rw [hu] at hv'
     obtain ⟨cs, h1, h2, _⟩ := hv'
     exact .inl ⟨by simp [isAggT, hu], cs, h1, h2⟩
 rcases hag with ⟨h1, cs, rfl, h2⟩ | ⟨h1, h2, h3⟩
 ·have hsz : sizeT P t = some cs.toList.length := by
   cases hs : sizeT P t with
   | none => unfold tyOk deep at ht; simp only at ht; rw [hs] at ht; cases ht
   | some n =>
    simp [sizeT] at hs
    obtain ⟨i, hi, q⟩ := hs
    simp [Program.cellsOf, hi, q] at h2
    simp [h2]
  obtain ⟨x, acs, p1, p2, p3⟩ := trod_rel ht e hsz
  exact ⟨x, .agg acs, p1, .agg p2, acs, p3, .inl ⟨h1, rfl⟩⟩
 ·rw [h2] at e
  obtain ⟨x, acs, p1, p2, p3⟩ := trod_rel ht e (by rw [h3]; rfl)
  cases p2 with
  | cons g1 g2 =>
   cases g2
   exact ⟨x, _, p1, g1, _, p3, .inr ⟨h1, rfl⟩⟩
theorem args_rel : ∀ {ts : List TypeId} {vs : List Value} {ds : List (DataW H)} {ps : List MemPlace}, ts.all (tyOk P deep) = true -> (∀ (j : Nat) t v, ts[j]? = some t -> vs[j]? = some v -> Value.okWide P w .any 0 t v) -> DataW.TrodAll enc P w 0 (fun _ => true) held ts vs ds ps ->
  ∃ xs as_, WTs P ts xs /\ VRels noMu (memOf w) as_ vs /\ ArgsR P noH noB ts xs as_
 | [], [], [], ps, _, _, _ => ⟨[], [], .nil, .nil, .nil⟩
 | t :: ts, v :: vs, d :: ds, ps, ht, hv, e => by
  obtain ⟨p, q, e1, e2, _⟩ := e
  simp only [List.all_cons, Bool.and_eq_true] at ht
  obtain ⟨x, a, h1, h2, h3⟩ := arg_rel ht.1 (hv 0 t v rfl rfl) e1
  obtain ⟨xs, as_, k1, k2, k3⟩ := args_rel ht.2 (fun j t v ht hv' => hv (j + 1) t v (by simpa using ht) (by simpa using hv')) e2
  exact ⟨x :: xs, a :: as_, .cons h1 k1, .cons h2 k2, .cons h3 k3⟩
 | [], _ :: _, _, _, _, _, e => e.elim
 | [], [], _ :: _, _, _, _, e => e.elim
 | _ :: _, [], _, _, _, _, e => e.elim
 | _ :: _, _ :: _, [], _, _, _, e => e.elim
theorem law_calls [GlobI (memOf w)] {f : FuncId} {fn : Func} (hfn : P.funcs[f]? = some fn) (hF : ∀ xs, WTs P fn.params.toList xs -> Fn P f xs (.bool true)) (ht : fn.params.toList.all (tyOk P deep) = true)
  (hr : (match fn.resultTypes.toList with | [rt] => (match P.underlying rt with | some .bool => true | _ => false) | _ => false) = true)
  {args : Array Value} {ds : List (DataW H)} {ps : List MemPlace} (hval : ∀ (j : Nat) t v, fn.params[j]? = some t -> args[j]? = some v -> Value.okWide P w .any 0 t v) (hA : DataW.TrodAll enc P w 0 (fun _ => true) held fn.params.toList args.toList ds ps) :
  Calls P f args w fun e w' => e = .returned (.bool true) /\ Below w.heap.size w w' := by
 obtain ⟨xs, as_, h1, h2, h3⟩ := args_rel ht (fun j t v h k => hval j t v (by simpa using h) (by simpa using k)) hA
 obtain ⟨g, g1, hg⟩ := hF xs h1 noH noB as_ fn hfn (fun c hc => hc.elim) (fun c hc => by simp [noH, Heap.get, Tr.get_nil]) h3
 obtain ⟨gE, h', us, k1, k2, k3, k4, k5, k6, k7, k8, k9, k10⟩ := hg []
 have hu : us = [.bool true] := by
  split at hr
  ·rename_i rt hrt
   rw [hrt] at k4
   obtain ⟨u, rfl, cs, p1, p2⟩ := k4
   split at hr
   ·rename_i hu
    obtain ⟨_, p1⟩ := p1
    rw [hu] at p1
    obtain ⟨b, q1, q2⟩ := p1
    cases q1
    subst q2
    rcases p2 with ⟨p2, _⟩ | ⟨_, p2⟩
    ·simp [isAggT, hu] at p2
    ·simp at p2; rw [<- p2]
   ·cases hr
  ·cases hr
 subst hu
 have hd : done P f ⟨gE, [], h'⟩ = some (.bool true) := by
  unfold done
  simp only [k6, k7, k5, k8, hfn, k9]
  simp
 refine (calls_of_leads (I := memOf w) (args := as_) (m0 := ⟨g, [], noH⟩) (by simp [begin_, g1, noH]) k10 hd w (fun B o v e => e) h2).mono fun e w' ⟨μ, u, he, hu, hb⟩ => ?_
 subst he
 cases hu
 exact ⟨rfl, hb⟩
end
end Go.Sym
namespace Go.Sym
def val : List Nat -> Nat
 | [] => 0
 | d :: l => d + 10000 * val l
def dgF : Nat -> Nat -> List Nat
 | 0, _ => []
 | f + 1, n => if n = 0 then [] else n % 10000 :: dgF f (n / 10000)
def dg (n : Nat) : List Nat := dgF n n
def Ok (l : List Nat) : Prop := ∀ d ∈ l, d < 10000
theorem dgF_more : ∀ (f g n : Nat), n <= f -> n <= g -> dgF f n = dgF g n
 | 0, g, n, h, _ => by
  have : n = 0 := by omega
  subst this
  cases g <;> simp [dgF]
 | f + 1, 0, n, _, h => by
  have : n = 0 := by omega
  subst this; simp [dgF]
 | f + 1, g + 1, n, h1, h2 => by
  unfold dgF
  by_cases h0 : n = 0
  ·simp [h0]
  ·rw [if_neg h0, if_neg h0, dgF_more f g (n / 10000) (by omega) (by omega)]
theorem dg_zero : dg 0 = [] := rfl
theorem dg_pos {n : Nat} (h : n ≠ 0) : dg n = n % 10000 :: dg (n / 10000) := by
 unfold dg
 obtain ⟨m, rfl⟩ : ∃ m, n = m + 1 := ⟨n - 1, by omega⟩
 conv => lhs; unfold dgF
 rw [if_neg h, dgF_more m ((m + 1) / 10000) _ (by omega) (by omega)]
theorem val_dg (n : Nat) : val (dg n) = n := by
 induction n using Nat.strongRecOn with
 | _ n ih =>
  by_cases h : n = 0
  ·subst h; rfl
  ·rw [dg_pos h]
   simp only [val, ih (n / 10000) (by omega)]
   omega
theorem ok_dg (n : Nat) : Ok (dg n) := by
 induction n using Nat.strongRecOn with
 | _ n ih =>
  by_cases h : n = 0
  ·subst h; intro d hd; simp [dg_zero] at hd
  ·rw [dg_pos h]
   intro d hd
   rcases List.mem_cons.1 hd with rfl | hd
   ·omega
   ·exact ih (n / 10000) (by omega) d hd
theorem dg_val : ∀ (l : List Nat), Ok l -> (∀ h : l ≠ [], l.getLast h ≠ 0) -> dg (val l) = l
 | [], _, _ => rfl
 | d :: l, ho, hl => by
  have hd : d < 10000 := ho d (by simp)
  have ho' : Ok l := fun x hx => ho x (by simp [hx])
  by_cases hn : l = []
  ·subst hn
   have : d ≠ 0 := hl (by simp)
   rw [dg_pos (by simp [val]; omega)]
   simp only [val]
   rw [show (d + 10000 * 0) % 10000 = d from by omega, show (d + 10000 * 0) / 10000 = 0 from by omega]
   rfl
  ·have ih := dg_val l ho' (fun h => by have := hl (by simp); rwa [List.getLast_cons hn] at this)
   have hv : val l ≠ 0 := by
    intro h0
    rw [h0] at ih
    exact hn ih.symm
   rw [dg_pos (by simp only [val]; omega)]
   simp only [val]
   rw [show (d + 10000 * val l) % 10000 = d from by omega, show (d + 10000 * val l) / 10000 = val l from by omega, ih]
def pw (i : Nat) : Nat := 10000 ^ i
theorem pw_zero : pw 0 = 1 := rfl
theorem pw_succ (i : Nat) : pw (i + 1) = 10000 * pw i := by unfold pw; rw [Nat.pow_succ, Nat.mul_comm]
theorem pw_add (i j : Nat) : pw (i + j) = pw i * pw j := by unfold pw; rw [Nat.pow_add]
theorem pw_pos (i : Nat) : 0 < pw i := Nat.pow_pos (by omega)
theorem div_pw (m i : Nat) : m / pw (i + 1) = m / pw i / 10000 := by rw [Nat.div_div_eq_div_mul, pw_succ, Nat.mul_comm]
theorem val_append (a b : List Nat) : val (a ++ b) = val a + pw a.length * val b := by
 induction a with
 | nil => simp [val, pw_zero]
 | cons d a ih => simp only [List.cons_append, val, ih, List.length_cons, pw_succ]; rw [Nat.mul_add, <- Nat.mul_assoc]; omega
theorem val_lt : ∀ {l : List Nat}, Ok l -> val l < pw l.length
 | [], _ => by simp [val, pw_zero]
 | d :: l, h => by
  have := val_lt (l := l) (fun x hx => h x (by simp [hx]))
  have hd := h d (by simp)
  simp only [val, List.length_cons, pw_succ]
  omega
theorem dg_len {n k : Nat} (h : n < pw k) : (dg n).length <= k := by
 induction k generalizing n with
 | zero =>
  have : n = 0 := by rw [pw_zero] at h; omega
  subst this; simp [dg_zero]
 | succ k ih =>
  by_cases h0 : n = 0
  ·subst h0; simp [dg_zero]
  ·rw [dg_pos h0]
   have := ih (n := n / 10000) (by rw [pw_succ] at h; omega)
   simp; omega
def Ints (a : V) (l : List Nat) : Prop := a.els = l.map fun d => V.int (Int.ofNat d)
theorem Ints.len {a : V} {l : List Nat} (h : Ints a l) : a.len = l.length := by unfold Ints at h; simp [V.len, h]
theorem Ints.get {a : V} {l : List Nat} (h : Ints a l) {i d : Nat} (hd : l[i]? = some d) : (a.get (i : Int)).toI = d := by
 unfold Ints at h; simp [V.get, h, hd, V.toI]
theorem Ints.snoc {a : V} {l : List Nat} (h : Ints a l) (d : Nat) : Ints (a.snoc (.int d)) (l ++ [d]) := by
 unfold Ints at *; simp [V.snoc, h, show ∀ l, (V.list l).els = l from fun _ => rfl]
theorem Ints.set {a : V} {l : List Nat} (h : Ints a l) (i d : Nat) : Ints (a.set (i : Int) (.int d)) (l.set i d) := by
 unfold Ints at *; simp [V.set, h, show ∀ l, (V.list l).els = l from fun _ => rfl, List.map_set]
theorem Ints.rep (n : Nat) (d : Nat) : Ints (V.rep n (.int d)) (List.replicate n d) := by
 unfold Ints; simp [V.rep, show ∀ l, (V.list l).els = l from fun _ => rfl]
theorem Ints.app {a b : V} {l k : List Nat} (h : Ints a l) (g : Ints b k) : Ints (a.app b) (l ++ k) := by
 unfold Ints at *
 unfold V.app
 split <;> simp_all [V.els]
theorem Ints.sub {a : V} {l : List Nat} (h : Ints a l) {i j : Nat} (hij : i <= j) (hj : j <= l.length) : Ints (a.sub (i : Int) (j : Int)) ((l.take j).drop i) := by
 unfold Ints at *
 unfold V.sub
 split <;> simp_all [V.els]
theorem ints_nil : Ints .nil [] := rfl
theorem ints_emp : Ints (.list []) [] := rfl
theorem maxI_abs (a : Int) : maxI a (-a) = a.natAbs := by unfold maxI; split <;> omega
theorem dg_get (m i : Nat) : (dg m)[i]? = if m / pw i = 0 then none else some (m / pw i % 10000) := by
 induction i generalizing m with
 | zero =>
  by_cases h : m = 0
  ·subst h; simp [dg_zero]
  ·rw [dg_pos h, pw_zero]; simp [h]
 | succ i ih =>
  by_cases h : m = 0
  ·subst h; simp [dg_zero]
  ·rw [dg_pos h, List.getElem?_cons_succ, ih, Nat.div_div_eq_div_mul, pw_succ, Nat.mul_comm]
theorem dg_lt (m i : Nat) : i < (dg m).length ↔ m / pw i ≠ 0 := by
 have := dg_get m i
 constructor
 ·intro h q
  rw [if_pos q] at this
  rw [List.getElem?_eq_none_iff] at this; omega
 ·intro h
  rw [if_neg h] at this
  exact (List.getElem?_eq_some_iff.1 this).1
theorem val_set {l : List Nat} {i d0 : Nat} (h : l[i]? = some d0) (d : Nat) : val (l.set i d) + d0 * pw i = val l + d * pw i := by
 induction l generalizing i with
 | nil => simp at h
 | cons x l ih =>
  cases i with
  | zero => simp at h; subst h; simp [val, pw_zero]; omega
  | succ i =>
   simp only [List.getElem?_cons_succ] at h
   have := ih h
   simp only [List.set_cons_succ, val, pw_succ]
   rw [Nat.mul_left_comm, Nat.mul_left_comm d]; omega
theorem Ok.set {l : List Nat} (h : Ok l) (i d : Nat) (hd : d < 10000) : Ok (l.set i d) := by
 intro x hx
 rcases List.mem_or_eq_of_mem_set hx with q | q
 ·exact h x q
 ·omega
theorem Ok.app {l k : List Nat} (h : Ok l) (g : Ok k) : Ok (l ++ k) := by
 intro x hx
 rcases List.mem_append.1 hx with q | q
 ·exact h x q
 ·exact g x q
theorem val_rep (n : Nat) : val (List.replicate n 0) = 0 := by
 induction n with
 | zero => rfl
 | succ n ih => simp [List.replicate_succ, val, ih]
theorem val_take_succ (l : List Nat) (j d : Nat) (h : l[j]? = some d) : val (l.take (j + 1)) = val (l.take j) + pw j * d := by
 obtain ⟨h1, h2⟩ := List.getElem?_eq_some_iff.1 h
 rw [List.take_add_one, h, val_append]
 simp [val]
 congr 2
 omega
theorem dg_drop (m i : Nat) : (dg m).drop i = dg (m / pw i) := by
 induction i generalizing m with
 | zero => simp [pw_zero]
 | succ i ih =>
  by_cases h : m = 0
  ·subst h; simp [dg_zero]
  ·rw [dg_pos h, List.drop_succ_cons, ih, Nat.div_div_eq_div_mul, pw_succ, Nat.mul_comm]
end Go.Sym
namespace X
open Go Go.Abs Go.Sym
theorem plain0 : (prog.funcs.toList.all fun fn => !(fn.name == "runtime.NumGoroutine")) = true := by kernel_rfl
theorem progOk : Go.Abs.ProgOk prog := ⟨by kernel_rfl, fun f fn e => by
 have h := plain0
 simp only [List.all_eq_true, Bool.not_eq_true'] at h
 exact h fn (Array.mem_toList_iff.2 (Array.mem_of_getElem? e))⟩
theorem gcd_loop (v : List V) (hv : v.length = 2) : ∀ (n a b : Nat), a <= n -> Comes frac_gcd.K frac_gcd.f frac_gcd.s1 ⟨[a, b], [], v⟩ (.int (Nat.gcd a b)) := by
 obtain ⟨x, y, rfl⟩ : ∃ x y, v = [x, y] := by
  match v, hv with
  | [x, y], _ => exact ⟨x, y, rfl⟩
 intro n
 induction n with
 | zero =>
  intro a b h
  have : a = 0 := by omega
  subst this
  refine Comes.last progOk frac_gcd.p2 [] ⟨rfl, trivial⟩ ?_
  simp [E.v, E.i, Env.ext]
 | succ n ih =>
  intro a b h
  by_cases h0 : a = 0
  ·subst h0
   refine Comes.last progOk frac_gcd.p2 [] ⟨rfl, trivial⟩ ?_
   simp [E.v, E.i, Env.ext]
  ·refine Comes.step progOk frac_gcd.p1 [] ?_ ?_
   ·simp [HM, FT, IB, EvOk, E.b, E.i, Env.ext, ltB_iff, eqB_not]; omega
   ·have := ih (b % a) a (by have := Nat.mod_lt b (Nat.pos_of_ne_zero h0); omega)
    rw [Nat.gcd_rec]
    exact this
theorem gcd_spec (a b : Nat) : Fn prog frac_gcd.f [.int a, .int b] (.int (Nat.gcd a b)) := by
 refine Fn.of (C := frac_gcd.K) frac_gcd.b ?_
 refine Comes.step progOk frac_gcd.p0 [] trivial ?_
 exact gcd_loop [.int a, .int b] rfl a a b (Nat.le_refl _)
end X
namespace X
open Go Go.Abs Go.Sym
theorem digits_loop : ∀ (m : Nat) (n : Int) (x out : V) (l : List Nat), n.natAbs = m -> -9223372036854775808 <= n -> n <= 9223372036854775807 -> Ints out l -> l.length + (dg m).length <= 8796093021696 -> ∃ r, Ints r (l ++ dg m) /\ Comes ref01_digits.K ref01_digits.f ref01_digits.s1 ⟨[n], [], [x, out]⟩ r := by
 intro m
 induction m using Nat.strongRecOn with
 | _ m ih =>
  intro n x out l hm h1 h2 ho hl
  by_cases h0 : n = 0
  ·subst h0
   have : m = 0 := by omega
   subst this
   refine ⟨out, by simpa [dg_zero] using ho, Comes.last progOk ref01_digits.p2 [] ?_ ?_⟩
   ·simp [HM, FT, IB, EvOk, E.b, E.i, E.v, Env.ext, Sub.ev, ltB_iff, leB_iff, eqB_iff, eqB_not, ltB_not, leB_not]
   ·simp [HM, FT, IB, EvOk, E.b, E.i, E.v, Env.ext, Sub.ev, ltB_iff, leB_iff, eqB_iff, eqB_not, ltB_not, leB_not]
  ·have hmp : m ≠ 0 := by omega
   have hd : (dg m).length = (dg (m / 10000)).length + 1 := by rw [dg_pos hmp]; simp
   have hq : (n.tdiv 10000).natAbs = m / 10000 := by rw [Int.natAbs_tdiv, hm]; rfl
   have hr : (n.tmod 10000).natAbs = m % 10000 := by rw [Int.natAbs_tmod, hm]; rfl
   have ho' : Ints (out.snoc (.int (maxI (n.tmod 10000) (0-n.tmod 10000)))) (l ++ [m % 10000]) := by
    rw [show 0 - n.tmod 10000 = -n.tmod 10000 from by omega, maxI_abs, hr]; exact ho.snoc _
   obtain ⟨r, r1, r2⟩ := ih (m / 10000) (by omega) (n.tdiv 10000) x _ _ hq (by omega) (by omega) ho' (by simp; omega)
   refine ⟨r, ?_, Comes.step progOk ref01_digits.p1 [] ?_ r2⟩
   ·rw [dg_pos hmp]; simpa using r1
   ·have := ho.len
    simp [HM, FT, IB, EvOk, E.b, E.i, E.v, Env.ext, Sub.ev, ltB_iff, leB_iff, eqB_iff, eqB_not, ltB_not, leB_not]
    omega
theorem digits_spec (n : Int) (h1 : -9223372036854775808 <= n) (h2 : n <= 9223372036854775807) : ∃ r, Ints r (dg n.natAbs) /\ Fn prog ref01_digits.f [.int n] r := by
 have hl : (dg n.natAbs).length <= 5 := dg_len (by unfold pw; omega)
 obtain ⟨r, r1, r2⟩ := digits_loop n.natAbs n (.int n) .nil [] rfl h1 h2 ints_nil (by simp; omega)
 refine ⟨r, r1, Fn.of (C := ref01_digits.K) ref01_digits.b ?_⟩
 exact Comes.step progOk ref01_digits.p0 [] trivial r2
theorem cut_loop : ∀ (n : Nat) (x a : V) (l : List Nat), l.length = n -> Ints a l -> Ok l -> n <= 8796093021696 -> ∃ r, Ints r (dg (val l)) /\ Comes ref01_cut.K ref01_cut.f ref01_cut.s1 ⟨[], [], [x, a]⟩ r := by
 intro n
 induction n with
 | zero =>
  intro x a l hl ha ho hn
  have : l = [] := List.length_eq_zero_iff.1 hl
  subst this
  refine ⟨a, ha, Comes.last progOk ref01_cut.p3 [] ?_ ?_⟩
  ·have := ha.len
   simp [HM, FT, IB, EvOk, E.b, E.i, E.v, Env.ext, Sub.ev, ltB_iff, leB_iff, eqB_iff, eqB_not, ltB_not, leB_not]; omega
  ·simp [HM, FT, IB, EvOk, E.b, E.i, E.v, Env.ext, Sub.ev, ltB_iff, leB_iff, eqB_iff, eqB_not, ltB_not, leB_not]
 | succ n ih =>
  intro x a l hl ha ho hn
  have hlen := ha.len
  obtain ⟨k, d, rfl⟩ : ∃ k d, l = k ++ [d] := by
   have : l ≠ [] := by intro q; subst q; simp at hl
   exact ⟨l.dropLast, l.getLast this, (List.dropLast_concat_getLast this).symm⟩
  have hk : k.length = n := by simpa using hl
  have hg : (a.get (a.len - 1)).toI = d := by
   rw [hlen]
   have := ha.get (i := n) (d := d) (by simp [<- hk])
   rw [<- this]; congr 2; simp; omega
  have hok : Ok k := fun x hx => ho x (by simp [hx])
  by_cases h0 : d = 0
  ·subst h0
   have hs : Ints (a.sub 0 (a.len - 1)) k := by
    have := ha.sub (i := 0) (j := n) (by omega) (by simp; omega)
    rw [List.take_left' hk] at this
    rw [hlen]
    simpa [hk] using this
   obtain ⟨r, r1, r2⟩ := ih x (a.sub 0 (a.len - 1)) k hk hs hok (by omega)
   refine ⟨r, ?_, Comes.step progOk ref01_cut.p1 [] ?_ r2⟩
   ·rw [val_append]; simpa [val] using r1
   ·simp [HM, FT, IB, EvOk, E.b, E.i, E.v, Env.ext, Sub.ev, ltB_iff, leB_iff, eqB_iff, eqB_not, ltB_not, leB_not]; simp [hg]; simp at hlen; omega
  ·refine ⟨a, ?_, Comes.last progOk ref01_cut.p2 [] ?_ ?_⟩
   ·rw [dg_val _ ho (by simp [h0])]; exact ha
   ·simp [HM, FT, IB, EvOk, E.b, E.i, E.v, Env.ext, Sub.ev, ltB_iff, leB_iff, eqB_iff, eqB_not, ltB_not, leB_not]; simp [hg]; simp at hlen; omega
   ·simp [HM, FT, IB, EvOk, E.b, E.i, E.v, Env.ext, Sub.ev, ltB_iff, leB_iff, eqB_iff, eqB_not, ltB_not, leB_not]
theorem cut_spec {a : V} {l : List Nat} (ha : Ints a l) (ho : Ok l) (hn : l.length <= 8796093021696) : ∃ r, Ints r (dg (val l)) /\ Fn prog ref01_cut.f [a] r := by
 obtain ⟨r, r1, r2⟩ := cut_loop l.length a a l rfl ha ho hn
 refine ⟨r, r1, Fn.of (C := ref01_cut.K) ref01_cut.b ?_⟩
 exact Comes.step progOk ref01_cut.p0 [] trivial r2
def cmpN (m n : Nat) : Int := if m < n then -1 else if n < m then 1 else 0
theorem compare_loop {a b : V} {l k : List Nat} (ha : Ints a l) (hb : Ints b k) (hl : Ok l) (hk : Ok k) (he : l.length = k.length) (hn : l.length <= 8796093021696) : ∀ (j : Nat) (i : Int), i = (j : Int) - 1 -> j <= l.length -> Comes ref01_compare.K ref01_compare.f ref01_compare.s1 ⟨[i], [], [a, b]⟩ (.int (cmpN (val (l.take j)) (val (k.take j)))) := by
 have la := ha.len
 have lb := hb.len
 intro j
 induction j with
 | zero =>
  intro i hi hj
  subst hi
  refine Comes.last progOk ref01_compare.p6 [] ?_ ?_
  ·simp [HM, FT, IB, EvOk, E.b, E.i, E.v, Env.ext, Sub.ev, ltB_iff, leB_iff, eqB_iff, eqB_not, ltB_not, leB_not]
  ·simp [HM, FT, IB, EvOk, E.b, E.i, E.v, Env.ext, Sub.ev, ltB_iff, leB_iff, eqB_iff, eqB_not, ltB_not, leB_not]; simp [cmpN, val]
 | succ j ih =>
  intro i hi hj
  obtain ⟨d, hd⟩ : ∃ d, l[j]? = some d := ⟨l[j], List.getElem?_eq_getElem (by omega)⟩
  obtain ⟨e, hee⟩ : ∃ d, k[j]? = some d := ⟨k[j], List.getElem?_eq_getElem (by omega)⟩
  have hi' : i = (j : Int) := by omega
  subst hi'
  have ga := ha.get hd
  have gb := hb.get hee
  have v1 := val_take_succ l j d hd
  have v2 := val_take_succ k j e hee
  have b1 : val (l.take j) < pw j := by
   have := val_lt (l := l.take j) (fun x hx => hl x (List.mem_of_mem_take hx))
   rwa [List.length_take, Nat.min_eq_left (by omega)] at this
  have b2 : val (k.take j) < pw j := by
   have := val_lt (l := k.take j) (fun x hx => hk x (List.mem_of_mem_take hx))
   rwa [List.length_take, Nat.min_eq_left (by omega)] at this
  rcases Nat.lt_trichotomy d e with q | q | q
  ·have hv : val (l.take (j + 1)) < val (k.take (j + 1)) := by
    have := Nat.mul_le_mul_left (pw j) (show d + 1 <= e from q)
    rw [Nat.mul_add] at this; omega
   refine Comes.last progOk ref01_compare.p3 [] ?_ ?_
   ·simp [HM, FT, IB, EvOk, E.b, E.i, E.v, Env.ext, Sub.ev, ltB_iff, leB_iff, eqB_iff, eqB_not, ltB_not, leB_not]; rw [ga, gb]; omega
   ·simp [HM, FT, IB, EvOk, E.b, E.i, E.v, Env.ext, Sub.ev, ltB_iff, leB_iff, eqB_iff, eqB_not, ltB_not, leB_not]; simp [cmpN, hv]
  ·subst q
   have hv : cmpN (val (l.take (j + 1))) (val (k.take (j + 1))) = cmpN (val (l.take j)) (val (k.take j)) := by
    unfold cmpN
    rw [v1, v2]
    split <;> split <;> (try split) <;> (try split) <;> omega
   rw [hv]
   refine Comes.step progOk ref01_compare.p5 [] ?_ (ih ((j : Int) - 1) rfl (by omega))
   simp [HM, FT, IB, EvOk, E.b, E.i, E.v, Env.ext, Sub.ev, ltB_iff, leB_iff, eqB_iff, eqB_not, ltB_not, leB_not]; rw [ga, gb]; omega
  ·have hv : val (k.take (j + 1)) < val (l.take (j + 1)) := by
    have := Nat.mul_le_mul_left (pw j) (show e + 1 <= d from q)
    rw [Nat.mul_add] at this; omega
   refine Comes.last progOk ref01_compare.p4 [] ?_ ?_
   ·simp [HM, FT, IB, EvOk, E.b, E.i, E.v, Env.ext, Sub.ev, ltB_iff, leB_iff, eqB_iff, eqB_not, ltB_not, leB_not]; rw [ga, gb]; omega
   ·simp [HM, FT, IB, EvOk, E.b, E.i, E.v, Env.ext, Sub.ev, ltB_iff, leB_iff, eqB_iff, eqB_not, ltB_not, leB_not]; simp [cmpN, hv]; omega
theorem dg_len_lt {m n : Nat} (h : (dg m).length < (dg n).length) : m < n := by
 have h1 := (dg_lt n (dg m).length).1 h
 have h2 := val_lt (ok_dg m)
 rw [val_dg] at h2
 have := Nat.div_mul_le_self n (pw (dg m).length)
 have h3 : 1 <= n / pw (dg m).length := Nat.pos_of_ne_zero h1
 have := Nat.mul_le_mul_right (pw (dg m).length) h3
 omega
theorem compare_spec {a b : V} {m n : Nat} (ha : Ints a (dg m)) (hb : Ints b (dg n)) (hm : (dg m).length <= 8796093021696) : Fn prog ref01_compare.f [a, b] (.int (cmpN m n)) := by
 have la := ha.len
 have lb := hb.len
 refine Fn.of (C := ref01_compare.K) ref01_compare.b ?_
 rcases Nat.lt_trichotomy (dg m).length (dg n).length with q | q | q
 ·have := dg_len_lt q
  refine Comes.last progOk ref01_compare.p0 [] ?_ ?_
  ·simp [HM, FT, IB, EvOk, E.b, E.i, E.v, Env.ext, Sub.ev, ltB_iff, leB_iff, eqB_iff, eqB_not, ltB_not, leB_not]; omega
  ·simp [HM, FT, IB, EvOk, E.b, E.i, E.v, Env.ext, Sub.ev, ltB_iff, leB_iff, eqB_iff, eqB_not, ltB_not, leB_not]; simp [cmpN, this]
 ·have k := compare_loop ha hb (ok_dg m) (ok_dg n) q hm (dg m).length ((dg m).length - 1) rfl (Nat.le_refl _)
  rw [List.take_length, q, List.take_length, val_dg, val_dg, <- q, <- la] at k
  refine Comes.step progOk ref01_compare.p2 [] ?_ k
  simp [HM, FT, IB, EvOk, E.b, E.i, E.v, Env.ext, Sub.ev, ltB_iff, leB_iff, eqB_iff, eqB_not, ltB_not, leB_not]; omega
 ·have := dg_len_lt q
  refine Comes.last progOk ref01_compare.p1 [] ?_ ?_
  ·simp [HM, FT, IB, EvOk, E.b, E.i, E.v, Env.ext, Sub.ev, ltB_iff, leB_iff, eqB_iff, eqB_not, ltB_not, leB_not]; omega
  ·simp [HM, FT, IB, EvOk, E.b, E.i, E.v, Env.ext, Sub.ev, ltB_iff, leB_iff, eqB_iff, eqB_not, ltB_not, leB_not]; simp [cmpN, this]; omega
end X
namespace X
open Go Go.Abs Go.Sym
theorem minus_loop {a b : V} {m n : Nat} (ha : Ints a (dg m)) (hb : Ints b (dg n)) (hmn : n <= m) (hl : (dg m).length <= 1000000000) : ∀ (g i c : Nat) (i' c' : Int) (x y out : V) (l : List Nat), g + i = (dg m).length -> i' = i -> c' = c -> c <= 1 -> Ints out l -> Ok l -> l.length = i -> val l + pw i * (m / pw i) + n = m + pw i * (n / pw i + c) -> ∃ r, Ints r (dg (m - n)) /\ Comes ref01_minus.K ref01_minus.f ref01_minus.s1 ⟨[c', i'], [], [a, b, out]⟩ r := by
 have la := ha.len
 have lb := hb.len
 intro g
 induction g with
 | zero =>
  intro i c i' c' x y out l hg hi hc hc1 hout hok hli hv
  subst hi hc
  have hp : m / pw i = 0 := by
   have := dg_lt m i
   exact Decidable.byContradiction fun q => by have := this.2 q; omega
  have hq : n / pw i = 0 := by
   have := Nat.div_le_div_right (c := pw i) hmn
   rw [hp] at this
   exact Nat.le_zero.1 this
  have hlt : val l < pw i := by rw [<- hli]; exact val_lt hok
  rw [hp, hq] at hv
  have hc0 : c = 0 := by
   rcases (show c = 0 \/ c = 1 by omega) with q | q
   ·exact q
   ·subst q; rw [Nat.mul_zero, Nat.zero_add, Nat.mul_one] at hv; omega
  subst hc0
  simp only [Nat.mul_zero, Nat.add_zero] at hv
  have hv' : val l = m - n := by omega
  obtain ⟨r, r1, r2⟩ := cut_spec hout hok (by omega)
  rw [hv'] at r1
  refine ⟨r, r1, Comes.last progOk ref01_minus.p5 [r] ?_ ?_⟩
  ·simp [HM, FT, IB, EvOk, E.b, E.i, E.v, Env.ext, Sub.ev, ltB_iff, leB_iff, eqB_iff, eqB_not, ltB_not, leB_not]; exact ⟨by omega, r2⟩
  ·simp [HM, FT, IB, EvOk, E.b, E.i, E.v, Env.ext, Sub.ev, ltB_iff, leB_iff, eqB_iff, eqB_not, ltB_not, leB_not]
 | succ g ih =>
  intro i c i' c' x y out l hg hi hc hc1 hout hok hli hv
  subst hi hc
  have hp : m / pw i ≠ 0 := (dg_lt m i).1 (by omega)
  have gm := dg_get m i
  rw [if_neg hp] at gm
  have ga := ha.get gm
  have hout' := hout.len
  have hP := Nat.div_add_mod (m / pw i) 10000
  have hQ := Nat.div_add_mod (n / pw i) 10000
  rw [<- div_pw, pw_succ] at hP hQ
  have lm : i < (dg m).length := by omega
  have key : ∀ (d c2 : Nat), d + c + n / pw i % 10000 = m / pw i % 10000 + 10000 * c2 -> val (l ++ [d]) + pw (i + 1) * (m / pw (i + 1)) + n = m + pw (i + 1) * (n / pw (i + 1) + c2) := by
   intro d c2 hd
   rw [val_append, hli]
   simp only [val]
   rw [<- hP, <- hQ] at hv
   rw [pw_succ]
   generalize m / pw i % 10000 = p at *
   generalize n / pw i % 10000 = q at *
   have hd' := congrArg (pw i * ·) hd
   simp only [Nat.mul_add, Nat.mul_zero, Nat.add_zero, Nat.mul_assoc] at hd' hv ⊢
   generalize m / (10000 * pw i) = M at *
   generalize n / (10000 * pw i) = N at *
   have e1 : pw i * (10000 * M) = 10000 * (pw i * M) := Nat.mul_left_comm _ _ _
   have e2 : pw i * (10000 * N) = 10000 * (pw i * N) := Nat.mul_left_comm _ _ _
   have e3 : pw i * (10000 * c2) = 10000 * (pw i * c2) := Nat.mul_left_comm _ _ _
   omega
  have hp1 : m / pw i % 10000 < 10000 := Nat.mod_lt _ (by omega)
  have hq1 : n / pw i % 10000 < 10000 := Nat.mod_lt _ (by omega)
  have snoc : ∀ (d : Nat) (z : Int), z = d -> Ints (out.snoc (.int z)) (l ++ [d]) := by intro d z e; subst e; exact hout.snoc d
  have okd : ∀ (d : Nat), d < 10000 -> Ok (l ++ [d]) := fun d h => hok.app (by intro z hz; simp at hz; omega)
  have li1 : ∀ d : Nat, (l ++ [d]).length = i + 1 := by intro d; simp [hli]
  by_cases hb0 : n / pw i = 0
  ·have hbl : (dg n).length <= i := Nat.le_of_not_lt fun q => (dg_lt n i).1 q hb0
   have hq0 : n / pw i % 10000 = 0 := by rw [hb0]
   rw [hq0] at key hq1
   generalize m / pw i % 10000 = p at *
   by_cases hd : (p : Int) - c < 0
   ·obtain ⟨r, r1, r2⟩ := ih (i + 1) 1 ((i : Int) + 1) 1 x y (out.snoc (.int ((a.get i).toI - c + 10000))) (l ++ [p + 10000 - c]) (by omega) (by omega) rfl (by omega) (snoc _ _ (by rw [ga]; omega)) (okd _ (by omega)) (li1 _) (key _ 1 (by omega))
    refine ⟨r, r1, Comes.step progOk ref01_minus.p3 [] ?_ r2⟩
    simp [HM, FT, IB, EvOk, E.b, E.i, E.v, Env.ext, Sub.ev, ltB_iff, leB_iff, eqB_iff, eqB_not, ltB_not, leB_not]; rw [ga]; omega
   ·obtain ⟨r, r1, r2⟩ := ih (i + 1) 0 ((i : Int) + 1) 0 x y (out.snoc (.int ((a.get i).toI - c))) (l ++ [p - c]) (by omega) (by omega) rfl (by omega) (snoc _ _ (by rw [ga]; omega)) (okd _ (by omega)) (li1 _) (key _ 0 (by omega))
    refine ⟨r, r1, Comes.step progOk ref01_minus.p4 [] ?_ r2⟩
    simp [HM, FT, IB, EvOk, E.b, E.i, E.v, Env.ext, Sub.ev, ltB_iff, leB_iff, eqB_iff, eqB_not, ltB_not, leB_not]; rw [ga]; omega
  ·have hbl : i < (dg n).length := (dg_lt n i).2 hb0
   have gn := dg_get n i
   rw [if_neg hb0] at gn
   have gb := hb.get gn
   generalize m / pw i % 10000 = p at *
   generalize n / pw i % 10000 = q at *
   by_cases hd : (p : Int) - c - q < 0
   ·obtain ⟨r, r1, r2⟩ := ih (i + 1) 1 ((i : Int) + 1) 1 x y (out.snoc (.int ((a.get i).toI - c - (b.get i).toI + 10000))) (l ++ [p + 10000 - c - q]) (by omega) (by omega) rfl (by omega) (snoc _ _ (by rw [ga, gb]; omega)) (okd _ (by omega)) (li1 _) (key _ 1 (by omega))
    refine ⟨r, r1, Comes.step progOk ref01_minus.p1 [] ?_ r2⟩
    simp [HM, FT, IB, EvOk, E.b, E.i, E.v, Env.ext, Sub.ev, ltB_iff, leB_iff, eqB_iff, eqB_not, ltB_not, leB_not]; rw [ga, gb]; omega
   ·obtain ⟨r, r1, r2⟩ := ih (i + 1) 0 ((i : Int) + 1) 0 x y (out.snoc (.int ((a.get i).toI - c - (b.get i).toI))) (l ++ [p - c - q]) (by omega) (by omega) rfl (by omega) (snoc _ _ (by rw [ga, gb]; omega)) (okd _ (by omega)) (li1 _) (key _ 0 (by omega))
    refine ⟨r, r1, Comes.step progOk ref01_minus.p2 [] ?_ r2⟩
    simp [HM, FT, IB, EvOk, E.b, E.i, E.v, Env.ext, Sub.ev, ltB_iff, leB_iff, eqB_iff, eqB_not, ltB_not, leB_not]; rw [ga, gb]; omega
theorem minus_spec {a b : V} {m n : Nat} (ha : Ints a (dg m)) (hb : Ints b (dg n)) (hmn : n <= m) (hl : (dg m).length <= 1000000000) : ∃ r, Ints r (dg (m - n)) /\ Fn prog ref01_minus.f [a, b] r := by
 obtain ⟨r, r1, r2⟩ := minus_loop ha hb hmn hl (dg m).length 0 0 0 0 .nil .nil .nil [] (by omega) rfl rfl (by omega) ints_nil (by intro x hx; simp at hx) rfl (by simp [val, pw_zero])
 refine ⟨r, r1, Fn.of (C := ref01_minus.K) ref01_minus.b ?_⟩
 exact Comes.step progOk ref01_minus.p0 [] trivial r2
end X
namespace X
open Go Go.Abs Go.Sym
theorem tdivN (n : Nat) (z : Int) (h : z = n) : z.tdiv 10000 = ((n / 10000 : Nat) : Int) := by subst h; rw [Int.tdiv_eq_ediv_of_nonneg (by omega)]; rfl
theorem tmodN (n : Nat) (z : Int) (h : z = n) : z.tmod 10000 = ((n % 10000 : Nat) : Int) := by subst h; rw [Int.tmod_eq_emod_of_nonneg (by omega)]; rfl
theorem times_inner {a b : V} {l k : List Nat} {i d : Nat} (ha : Ints a l) (hb : Ints b k) (hk : ∀ x ∈ k, x <= 10000) (hvk : val k <= pw k.length) (hd : l[i]? = some d) (hd1 : d < 10000) (hvl : val (l.take (i + 1)) < pw (i + 1)) (hn : l.length + k.length <= 1000000000) {R : V -> Prop}
  (H : ∀ (out : V) (o : List Nat), Ints out o -> Ok o -> o.length = l.length + k.length -> val o = val (l.take (i + 1)) * val k -> ∃ r, R r /\ Comes ref01_times.K ref01_times.f ref01_times.s1 ⟨[(i : Int) + 1], [], [a, b, out]⟩ r) :
  ∀ (t j c : Nat) (j' c' : Int) (out : V) (o : List Nat), t + (i + j) = l.length + k.length -> j' = j -> c' = c -> c <= 10000 -> Ints out o -> Ok o -> o.length = l.length + k.length -> val o + c * pw (i + j) = val (l.take i) * val k + d * (val (k.take j) * pw i) -> ∃ r, R r /\ Comes ref01_times.K ref01_times.f ref01_times.s2 ⟨[c', j', (i : Int)], [], [a, b, out]⟩ r := by
 have la := ha.len
 have lb := hb.len
 have hi : i < l.length := (List.getElem?_eq_some_iff.1 hd).1
 have ga := ha.get hd
 have htk := val_take_succ l i d hd
 have hprod : ∀ j, k.length <= j -> val (l.take i) * val k + d * (val (k.take j) * pw i) = val (l.take (i + 1)) * val k := by
  intro j hj
  rw [List.take_of_length_le hj, htk, Nat.add_mul]
  congr 1
  ac_rfl
 have hbound : val (l.take (i + 1)) * val k < pw (i + 1 + k.length) := by
  rw [pw_add]
  exact Nat.lt_of_le_of_lt (Nat.mul_le_mul_left _ hvk) (Nat.mul_lt_mul_of_pos_right hvl (pw_pos _))
 intro t
 induction t with
 | zero =>
  intro j c j' c' out o ht hj hc hc1 hout hok hol hv
  subst hj hc
  have hjl : k.length <= j := by omega
  have hc0 : c = 0 := by
   rcases Nat.eq_zero_or_pos c with q | q
   ·exact q
   ·exfalso
    rw [hprod j hjl] at hv
    have h1 : pw (i + 1 + k.length) <= pw (i + j) := Nat.pow_le_pow_right (by omega) (by omega)
    have h2 : pw (i + j) <= c * pw (i + j) := Nat.le_mul_of_pos_left _ q
    omega
  subst hc0
  obtain ⟨r, r1, r2⟩ := H out o hout hok hol (by rw [<- hprod j hjl, <- hv]; simp)
  refine ⟨r, r1, Comes.step progOk ref01_times.p7 [] ?_ r2⟩
  simp [HM, FT, IB, EvOk, E.b, E.i, E.v, Env.ext, Sub.ev, ltB_iff, leB_iff, eqB_iff, eqB_not, ltB_not, leB_not]; omega
 | succ t ih =>
  intro j c j' c' out o ht hj hc hc1 hout hok hol hv
  subst hj hc
  have lo := hout.len
  have hij : i + j < o.length := by omega
  obtain ⟨e, he⟩ : ∃ e, o[i + j]? = some e := ⟨_, List.getElem?_eq_getElem hij⟩
  have he1 : e < 10000 := hok e (List.mem_of_getElem? he)
  have ge := hout.get he
  have setI : ∀ (x : Nat) (z : Int), z = x -> Ints (out.set ((i : Int) + j) (.int z)) (o.set (i + j) x) := by
   intro x z e; subst e; have := hout.set (i + j) x; rwa [Int.natCast_add] at this
  have vs : ∀ x, val (o.set (i + j) x) + e * pw (i + j) = val o + x * pw (i + j) := val_set he
  by_cases hjk : j < k.length
  ·obtain ⟨f, hf⟩ : ∃ f, k[j]? = some f := ⟨_, List.getElem?_eq_getElem hjk⟩
   have hf1 : f <= 10000 := hk f (List.mem_of_getElem? hf)
   have gb := hb.get hf
   have hdf : d * f <= 9999 * 10000 := Nat.mul_le_mul (by omega) hf1
   have hvt := val_take_succ k j f hf
   have num : (c : Int) + (out.get ((i : Int) + j)).toI + (a.get i).toI * (b.get j).toI = ((c + e + d * f : Nat) : Int) := by
    rw [ga, gb, <- Int.natCast_add, ge]; push_cast; rfl
   have e1 := Nat.div_add_mod (c + e + d * f) 10000
   obtain ⟨r, r1, r2⟩ := ih (j + 1) ((c + e + d * f) / 10000) ((j : Int) + 1) (((c : Int) + (out.get ((i : Int) + j)).toI + (a.get i).toI * (b.get j).toI).tdiv 10000) (out.set ((i : Int) + j) (.int (((c : Int) + (out.get ((i : Int) + j)).toI + (a.get i).toI * (b.get j).toI).tmod 10000))) (o.set (i + j) ((c + e + d * f) % 10000)) (by omega) (by omega) (tdivN _ _ num) (by omega) (setI _ _ (tmodN _ _ num)) (hok.set _ _ (by omega)) (by simp [hol]) (by
    have := vs ((c + e + d * f) % 10000)
    have e2 := congrArg (· * pw (i + j)) e1
    simp only [Nat.add_mul] at e2
    rw [hvt, show i + (j + 1) = (i + j) + 1 from rfl, pw_succ, Nat.mul_left_comm]
    rw [Nat.mul_assoc] at e2
    have e3 : d * ((val (k.take j) + pw j * f) * pw i) = d * (val (k.take j) * pw i) + d * f * pw (i + j) := by
     rw [Nat.add_mul, Nat.mul_add, pw_add, Nat.mul_assoc d f, Nat.mul_comm (pw j) f, Nat.mul_assoc f, Nat.mul_comm (pw j)]
    rw [e3]
    generalize (c + e + d * f) % 10000 = A at *
    generalize (c + e + d * f) / 10000 = A' at *
    generalize A' * pw (i + j) = A2 at *
    omega)
   refine ⟨r, r1, Comes.step progOk ref01_times.p3 [] ?_ r2⟩
   have n1 := tdivN _ _ num
   have ge' : (out.get ((i : Int) + j)).toI = e := by rw [<- Int.natCast_add]; exact ge
   rw [ge', ga, gb] at n1
   simp [HM, FT, IB, EvOk, E.b, E.i, E.v, Env.ext, Sub.ev, ltB_iff, leB_iff, eqB_iff, eqB_not, ltB_not, leB_not]
   rw [ge', ga, gb, n1]
   have : ((d : Int) * f) = ((d * f : Nat) : Int) := by push_cast; rfl
   rw [this]
   omega
  ·have hjl : k.length <= j := by omega
   rcases Nat.eq_zero_or_pos c with q | q
   ·subst q
    obtain ⟨r, r1, r2⟩ := H out o hout hok hol (by rw [<- hprod j hjl, <- hv]; simp)
    refine ⟨r, r1, Comes.step progOk ref01_times.p7 [] ?_ r2⟩
    simp [HM, FT, IB, EvOk, E.b, E.i, E.v, Env.ext, Sub.ev, ltB_iff, leB_iff, eqB_iff, eqB_not, ltB_not, leB_not]; omega
   ·have num : (c : Int) + (out.get ((i : Int) + j)).toI = ((c + e : Nat) : Int) := by
     rw [<- Int.natCast_add, ge]; push_cast; rfl
    have e1 := Nat.div_add_mod (c + e) 10000
    obtain ⟨r, r1, r2⟩ := ih (j + 1) ((c + e) / 10000) ((j : Int) + 1) (((c : Int) + (out.get ((i : Int) + j)).toI).tdiv 10000) (out.set ((i : Int) + j) (.int (((c : Int) + (out.get ((i : Int) + j)).toI).tmod 10000))) (o.set (i + j) ((c + e) % 10000)) (by omega) (by omega) (tdivN _ _ num) (by omega) (setI _ _ (tmodN _ _ num)) (hok.set _ _ (by omega)) (by simp [hol]) (by
     have := vs ((c + e) % 10000)
     have e2 := congrArg (· * pw (i + j)) e1
     simp only [Nat.add_mul] at e2
     rw [List.take_of_length_le (l := k) (i := j + 1) (by omega), show i + (j + 1) = (i + j) + 1 from rfl, pw_succ, Nat.mul_left_comm]
     rw [List.take_of_length_le (l := k) (i := j) (by omega)] at hv
     rw [Nat.mul_assoc] at e2
     generalize (c + e) % 10000 = A at *
     generalize (c + e) / 10000 = A' at *
     generalize A' * pw (i + j) = A2 at *
     omega)
    refine ⟨r, r1, Comes.step progOk ref01_times.p6 [] ?_ r2⟩
    have n1 := tdivN _ _ num
    have ge' : (out.get ((i : Int) + j)).toI = e := by rw [<- Int.natCast_add]; exact ge
    rw [ge'] at n1
    simp [HM, FT, IB, EvOk, E.b, E.i, E.v, Env.ext, Sub.ev, ltB_iff, leB_iff, eqB_iff, eqB_not, ltB_not, leB_not]
    rw [ge', n1]
    omega
theorem times_spec {a b : V} {l k : List Nat} (ha : Ints a l) (hb : Ints b k) (hl : Ok l) (hk : ∀ x ∈ k, x <= 10000) (hvk : val k <= pw k.length) (hn : l.length + k.length <= 1000000000) : ∃ r, Ints r (dg (val l * val k)) /\ Fn prog ref01_times.f [a, b] r := by
 have la := ha.len
 have lb := hb.len
 have outer : ∀ (t i : Nat) (i' : Int) (out : V) (o : List Nat), t + i = l.length -> i' = i -> Ints out o -> Ok o -> o.length = l.length + k.length -> val o = val (l.take i) * val k -> ∃ r, Ints r (dg (val l * val k)) /\ Comes ref01_times.K ref01_times.f ref01_times.s1 ⟨[i'], [], [a, b, out]⟩ r := by
  intro t
  induction t with
  | zero =>
   intro i i' out o ht hi hout hok hol hv
   subst hi
   obtain ⟨r, r1, r2⟩ := cut_spec hout hok (by omega)
   rw [hv, List.take_of_length_le (by omega)] at r1
   refine ⟨r, r1, Comes.last progOk ref01_times.p2 [r] ?_ ?_⟩
   ·simp [HM, FT, IB, EvOk, E.b, E.i, E.v, Env.ext, Sub.ev, ltB_iff, leB_iff, eqB_iff, eqB_not, ltB_not, leB_not]; exact ⟨by omega, r2⟩
   ·simp [HM, FT, IB, EvOk, E.b, E.i, E.v, Env.ext, Sub.ev, ltB_iff, leB_iff, eqB_iff, eqB_not, ltB_not, leB_not]
  | succ t ih =>
   intro i i' out o ht hi hout hok hol hv
   subst hi
   have hil : i < l.length := by omega
   obtain ⟨d, hd⟩ : ∃ e, l[i]? = some e := ⟨_, List.getElem?_eq_getElem hil⟩
   have hd1 : d < 10000 := hl d (List.mem_of_getElem? hd)
   have hvl : val (l.take (i + 1)) < pw (i + 1) := by
    have := val_lt (l := l.take (i + 1)) (fun x hx => hl x (List.mem_of_mem_take hx))
    rwa [List.length_take, Nat.min_eq_left (by omega)] at this
   obtain ⟨r, r1, r2⟩ := times_inner ha hb hk hvk hd hd1 hvl hn (R := fun r => Ints r (dg (val l * val k))) (fun out' o' h1 h2 h3 h4 => ih (i + 1) ((i : Int) + 1) out' o' (by omega) (by omega) h1 h2 h3 h4) (l.length + k.length - i) 0 0 0 0 out o (by omega) rfl rfl (by omega) hout hok hol (by simp [hv, val])
   refine ⟨r, r1, Comes.step progOk ref01_times.p1 [] ?_ r2⟩
   simp [HM, FT, IB, EvOk, E.b, E.i, E.v, Env.ext, Sub.ev, ltB_iff, leB_iff, eqB_iff, eqB_not, ltB_not, leB_not]; omega
 obtain ⟨r, r1, r2⟩ := outer l.length 0 0 (V.rep (a.len + b.len) (.int 0)) (List.replicate (l.length + k.length) 0) (by omega) rfl (by rw [la, lb, <- Int.natCast_add]; exact Ints.rep _ 0) (by intro x hx; have := List.eq_of_mem_replicate hx; omega) (by simp) (by rw [val_rep]; simp [val])
 refine ⟨r, r1, Fn.of (C := ref01_times.K) ref01_times.b ?_⟩
 refine Comes.step progOk ref01_times.p0 [] ?_ r2
 simp [HM, FT, IB, EvOk, E.b, E.i, E.v, Env.ext, Sub.ev, ltB_iff, leB_iff, eqB_iff, eqB_not, ltB_not, leB_not]; omega
end X
namespace X
open Go Go.Abs Go.Sym
theorem quot_lo {R n E : Nat} (hE : 0 < E) (hn : 0 < n) : (R / E) / (n / E + 1) <= R / n := by
 rw [Nat.le_div_iff_mul_le hn]
 have h1 := Nat.div_mul_le_self (R / E) (n / E + 1)
 have h2 := Nat.div_mul_le_self R E
 have h3 : n <= (n / E + 1) * E := by
  have := Nat.div_add_mod n E
  have := Nat.mod_lt n hE
  rw [Nat.add_mul, Nat.one_mul, Nat.mul_comm (n / E)]; omega
 calc R / E / (n / E + 1) * n <= R / E / (n / E + 1) * ((n / E + 1) * E) := Nat.mul_le_mul_left _ h3
  _ = R / E / (n / E + 1) * (n / E + 1) * E := by rw [Nat.mul_assoc]
  _ <= R / E * E := Nat.mul_le_mul_right _ h1
  _ <= R := h2
theorem quot_hi {R n E : Nat} (hE : 0 < E) (hT : 0 < n / E) : R / n <= (R / E) / (n / E) := by
 rw [Nat.le_div_iff_mul_le hT, Nat.le_div_iff_mul_le hE, Nat.mul_assoc]
 calc R / n * (n / E * E) <= R / n * n := Nat.mul_le_mul_left _ (Nat.div_mul_le_self n E)
  _ <= R := Nat.div_mul_le_self R n
theorem quot_cap {R n E : Nat} (hE : 0 < E) (hR : R < n * 10000) (h : E = 1 \/ 10000 <= n / E) : (R / E) / (n / E) <= 10000 := by
 rcases h with rfl | h
 ·rw [Nat.div_one, Nat.div_one]
  rcases Nat.eq_zero_or_pos n with q | q
  ·subst q; simp
  ·have := (Nat.div_lt_iff_lt_mul q).2 (show R < 10000 * n by omega)
   omega
 ·have h3 : n < (n / E + 1) * E := by
   have := Nat.div_add_mod n E
   have := Nat.mod_lt n hE
   rw [Nat.add_mul, Nat.one_mul, Nat.mul_comm (n / E)]; omega
  have h4 : R / E < (n / E + 1) * 10000 := by
   rw [Nat.div_lt_iff_lt_mul hE]
   calc R < n * 10000 := hR
    _ <= (n / E + 1) * E * 10000 := Nat.mul_le_mul_right _ (by omega)
    _ = (n / E + 1) * 10000 * E := by ac_rfl
  have h5 : R / E / (n / E) < 10001 := by
   rw [Nat.div_lt_iff_lt_mul (by omega)]
   generalize n / E = T at *
   omega
  omega
theorem divide_search {a b q0 q rest : V} {n R : Nat} (hn : 0 < n) (hb : Ints b (dg n)) (hr : Ints rest (dg R)) (hR : R < n * 10000) (hl : (dg n).length <= 100000000) {Q : V -> Prop} (z : List Int) (hz : z.length = 7) (i : Int)
  (H : ∃ r, Q r /\ Comes ref01_divide.K ref01_divide.f ref01_divide.s3 ⟨[((R / n : Nat) : Int), ((R / n : Nat) : Int)] ++ z ++ [i], [], [a, b, q0, q, rest]⟩ r) :
  ∀ (t low high : Nat) (low' high' : Int), t + low = high -> low' = low -> high' = high -> low <= R / n -> R / n <= high -> high <= 10000 -> ∃ r, Q r /\ Comes ref01_divide.K ref01_divide.f ref01_divide.s3 ⟨[low', high'] ++ z ++ [i], [], [a, b, q0, q, rest]⟩ r := by
 obtain ⟨z0, z1, z2, z3, z4, z5, z6, rfl⟩ : ∃ z0 z1 z2 z3 z4 z5 z6, z = [z0, z1, z2, z3, z4, z5, z6] := by
  match z, hz with
  | [z0, z1, z2, z3, z4, z5, z6], _ => exact ⟨z0, z1, z2, z3, z4, z5, z6, rfl⟩
 intro t
 induction t using Nat.strongRecOn with
 | _ t ih =>
  intro low high low' high' ht h1 h2 h3 h4 h5
  subst h1 h2
  by_cases hlh : low = high
  ·subst hlh
   have : R / n = low := by omega
   rw [this] at H
   exact H
  ·have hlen1 : (dg (n * ((low + high + 1) / 2))).length <= 100000001 := by
    have h1 : n < pw (dg n).length := by have := val_lt (ok_dg n); rwa [val_dg] at this
    have h2 : n * ((low + high + 1) / 2) <= n * 10000 := Nat.mul_le_mul_left _ (by omega)
    have := dg_len (n := n * ((low + high + 1) / 2)) (k := (dg n).length + 1) (by rw [pw_succ]; omega)
    omega
   have hmid : ((low : Int) + high + 1).tdiv 2 = (((low + high + 1) / 2 : Nat) : Int) := by
    rw [Int.tdiv_eq_ediv_of_nonneg (by omega)]; omega
   generalize hm : (low + high + 1) / 2 = mid at *
   have hI : Ints ((V.list []).snoc (.int (((low : Int) + high + 1).tdiv 2))) [mid] := by rw [hmid]; exact ints_emp.snoc mid
   obtain ⟨r5, r51, r52⟩ := times_spec hb hI (ok_dg n) (by intro x hx; simp at hx; omega) (by simp [val, pw_succ, pw_zero]; omega) (by simp; omega)
   rw [val_dg] at r51
   simp only [val, Nat.mul_zero, Nat.add_zero] at r51
   have r6 := compare_spec r51 hr (by omega)
   by_cases hc : n * mid <= R
   ·obtain ⟨r, r1, r2⟩ := ih (high - mid) (by omega) mid high (((low : Int) + high + 1).tdiv 2) high (by omega) hmid rfl (by rw [Nat.le_div_iff_mul_le hn, Nat.mul_comm]; exact hc) h4 h5
    refine ⟨r, r1, Comes.step progOk ref01_divide.p9 [r5, .int (cmpN (n * mid) R)] ?_ r2⟩
    simp [HM, FT, IB, EvOk, E.b, E.i, E.v, Env.ext, Sub.ev, ltB_iff, leB_iff, eqB_iff, eqB_not, ltB_not, leB_not]
    refine ⟨by omega, by omega, by omega, by omega, r52, r6, ?_⟩
    show cmpN _ _ <= 0
    unfold cmpN; split <;> (try split) <;> omega
   ·have hq : R / n < mid := by rw [Nat.div_lt_iff_lt_mul hn, Nat.mul_comm]; omega
    obtain ⟨r, r1, r2⟩ := ih (mid - 1 - low) (by omega) low (mid - 1) low (((low : Int) + high + 1).tdiv 2 - 1) (by omega) rfl (by omega) h3 (by omega) (by omega)
    refine ⟨r, r1, Comes.step progOk ref01_divide.p10 [r5, .int (cmpN (n * mid) R)] ?_ r2⟩
    simp [HM, FT, IB, EvOk, E.b, E.i, E.v, Env.ext, Sub.ev, ltB_iff, leB_iff, eqB_iff, eqB_not, ltB_not, leB_not]
    refine ⟨by omega, by omega, by omega, by omega, r52, r6, ?_, by omega⟩
    show 0 < cmpN _ _
    unfold cmpN; split <;> (try split) <;> omega
theorem divide_first {a b q0 q rest : V} {n R N : Nat} (hN : N + 1 = (dg n).length) (hb : Ints b (dg n)) (hr : Ints rest (dg R)) (hR : R < n * 10000) (hl : (dg n).length <= 100000000) {Q : V -> Prop} (i : Int)
  (H : ∃ r, Q r /\ Comes ref01_divide.K ref01_divide.f ref01_divide.s2 ⟨[((n / pw (N - 1) : Nat) : Int), ((R / pw (N - 1) : Nat) : Int), ((N - 1 : Nat) : Int) - 1, i], [], [a, b, q0, q, rest]⟩ r) :
  ∀ (t j : Nat) (top first k : Int), t + (N - 1) = j -> j <= N + 2 -> top = ((n / pw j : Nat) : Int) -> first = ((R / pw j : Nat) : Int) -> k = (j : Int) - 1 -> ∃ r, Q r /\ Comes ref01_divide.K ref01_divide.f ref01_divide.s2 ⟨[top, first, k, i], [], [a, b, q0, q, rest]⟩ r := by
 have lb := hb.len
 have lr := hr.len
 have hnl : n < pw (N + 1) := by have := val_lt (ok_dg n); rwa [val_dg, <- hN] at this
 intro t
 induction t with
 | zero =>
  intro j top first k ht hj h1 h2 h3
  rw [Nat.zero_add] at ht
  subst ht h1 h2 h3
  exact H
 | succ t ih =>
  intro j top first k ht hj h1 h2 h3
  obtain ⟨g, rfl⟩ : ∃ g, j = g + 1 := ⟨j - 1, by omega⟩
  subst h1 h2 h3
  have hk : ((g + 1 : Nat) : Int) - 1 = g := by omega
  rw [hk]
  have dn := div_pw n g
  have dR := div_pw R g
  have an := Nat.div_add_mod (n / pw g) 10000
  have aR := Nat.div_add_mod (R / pw g) 10000
  rw [<- dn] at an
  rw [<- dR] at aR
  have hpN : pw N <= pw (g + 1) := Nat.pow_le_pow_right (by omega) (by omega)
  have hpS := pw_succ N
  have bigR : R / pw (g + 1) < 1000000000000 := by
   rw [Nat.div_lt_iff_lt_mul (pw_pos _)]
   omega
  have bign : n / pw (g + 1) < 1000000000000 := by
   rw [Nat.div_lt_iff_lt_mul (pw_pos _)]
   omega
  have mx : maxI 0 ((b.len : Int) - 1 - 1) <= g := by unfold maxI; split <;> omega
  have hmx : max (0 : Int) 0 = 0 := rfl
  have hR1 : R / pw g % 10000 < 10000 := Nat.mod_lt _ (by omega)
  have hn1 : n / pw g % 10000 < 10000 := Nat.mod_lt _ (by omega)
  by_cases hgr : g < (dg R).length
  ·have g1 := dg_get R g
   rw [if_neg ((dg_lt R g).1 hgr)] at g1
   have gr := hr.get g1
   by_cases hgn : g < (dg n).length
   ·have g2 := dg_get n g
    rw [if_neg ((dg_lt n g).1 hgn)] at g2
    have gn := hb.get g2
    obtain ⟨r, r1, r2⟩ := ih g (((n / pw (g + 1) : Nat) : Int) * 10000 + (b.get g).toI) (((R / pw (g + 1) : Nat) : Int) * 10000 + (rest.get g).toI) ((g : Int) - 1) (by omega) (by omega) (by rw [gn]; omega) (by rw [gr]; omega) rfl
    refine ⟨r, r1, Comes.step progOk ref01_divide.p4 [] ?_ r2⟩
    simp only [HM, FT, IB, EvOk, E.b, E.i, E.v, Env.ext, List.getD_cons_zero, List.getD_cons_succ, List.append_nil, ltB_iff, leB_iff, Bool.and_eq_true, Bool.not_eq_true', ltB_not, leB_not, and_true, gn, gr]
    omega
   ·have z1 : n / pw g = 0 := Decidable.byContradiction fun q => hgn ((dg_lt n g).2 q)
    obtain ⟨r, r1, r2⟩ := ih g (((n / pw (g + 1) : Nat) : Int)) (((R / pw (g + 1) : Nat) : Int) * 10000 + (rest.get g).toI) ((g : Int) - 1) (by omega) (by omega) (by rw [dn, z1]) (by rw [gr]; omega) rfl
    refine ⟨r, r1, Comes.step progOk ref01_divide.p5 [] ?_ r2⟩
    simp only [HM, FT, IB, EvOk, E.b, E.i, E.v, Env.ext, List.getD_cons_zero, List.getD_cons_succ, List.append_nil, ltB_iff, leB_iff, Bool.and_eq_true, Bool.not_eq_true', ltB_not, leB_not, and_true, gr]
    omega
  ·have z0 : R / pw g = 0 := Decidable.byContradiction fun q => hgr ((dg_lt R g).2 q)
   have z0' : R / pw (g + 1) = 0 := by rw [dR, z0]
   by_cases hgn : g < (dg n).length
   ·have g2 := dg_get n g
    rw [if_neg ((dg_lt n g).1 hgn)] at g2
    have gn := hb.get g2
    obtain ⟨r, r1, r2⟩ := ih g (((n / pw (g + 1) : Nat) : Int) * 10000 + (b.get g).toI) (((R / pw (g + 1) : Nat) : Int) * 10000) ((g : Int) - 1) (by omega) (by omega) (by rw [gn]; omega) (by omega) rfl
    refine ⟨r, r1, Comes.step progOk ref01_divide.p6 [] ?_ r2⟩
    simp only [HM, FT, IB, EvOk, E.b, E.i, E.v, Env.ext, List.getD_cons_zero, List.getD_cons_succ, List.append_nil, ltB_iff, leB_iff, Bool.and_eq_true, Bool.not_eq_true', ltB_not, leB_not, and_true, gn]
    omega
   ·have z1 : n / pw g = 0 := Decidable.byContradiction fun q => hgn ((dg_lt n g).2 q)
    obtain ⟨r, r1, r2⟩ := ih g (((n / pw (g + 1) : Nat) : Int)) (((R / pw (g + 1) : Nat) : Int) * 10000) ((g : Int) - 1) (by omega) (by omega) (by rw [dn, z1]) (by omega) rfl
    refine ⟨r, r1, Comes.step progOk ref01_divide.p7 [] ?_ r2⟩
    simp only [HM, FT, IB, EvOk, E.b, E.i, E.v, Env.ext, List.getD_cons_zero, List.getD_cons_succ, List.append_nil, ltB_iff, leB_iff, Bool.and_eq_true, Bool.not_eq_true', ltB_not, leB_not, and_true]
    omega
end X
namespace X
open Go Go.Abs Go.Sym
theorem rep_get {n i : Nat} (h : i < n) : (List.replicate n 0)[i]? = some 0 := by simp [h]
theorem divide_spec {a b : V} {m n : Nat} (ha : Ints a (dg m)) (hb : Ints b (dg n)) (hn : 0 < n) (lm : (dg m).length <= 50000000) (ln : (dg n).length <= 50000000) : ∃ x y, Ints x (dg (m / n)) /\ Ints y (dg (m % n)) /\ Fn prog ref01_divide.f [a, b] (.list [x, y]) := by
 have la := ha.len
 have lb := hb.len
 have hnl : n < pw (dg n).length := by have := val_lt (ok_dg n); rwa [val_dg] at this
 have hml : m < pw (dg m).length := by have := val_lt (ok_dg m); rwa [val_dg] at this
 have hnp : 0 < (dg n).length := (dg_lt n 0).2 (by rw [pw_zero]; simp; omega)
 obtain ⟨N, hN⟩ : ∃ N, N + 1 = (dg n).length := ⟨(dg n).length - 1, by omega⟩
 have hNp : pw N <= n := by
  have := (dg_lt n N).1 (by omega)
  have h1 : 1 <= n / pw N := Nat.pos_of_ne_zero this
  rwa [Nat.le_div_iff_mul_le (pw_pos _), Nat.one_mul] at h1
 by_cases hs : (dg m).length <= N
 ·have hmn : m < n := by
   have : pw (dg m).length <= pw N := Nat.pow_le_pow_right (by omega) hs
   omega
  refine ⟨.nil, (V.list []).app a, ?_, ?_, Fn.of (C := ref01_divide.K) ref01_divide.b ?_⟩
  ·rw [Nat.div_eq_of_lt hmn]; exact ints_nil
  ·rw [Nat.mod_eq_of_lt hmn]; exact ints_emp.app ha
  ·refine Comes.last progOk ref01_divide.p0 [] ?_ ?_
   ·simp [HM, FT, IB, EvOk, E.b, E.i, E.v, Env.ext, Sub.ev, ltB_iff, leB_iff, eqB_iff, eqB_not, ltB_not, leB_not]; omega
   ·simp [HM, FT, IB, EvOk, E.b, E.i, E.v, Env.ext, Sub.ev, ltB_iff, leB_iff, eqB_iff, eqB_not, ltB_not, leB_not]; simp [V.snoc, V.els]
 ·have outer : ∀ (j : Nat) (i' : Int) (q0 q rest : V) (l : List Nat), j <= (dg m).length - N -> i' = (j : Int) - 1 -> Ints rest (dg (m / pw j % n)) -> Ints q l -> Ok l -> l.length = (dg m).length - N -> (∀ t, t < j -> l[t]? = some 0) -> val l = pw j * (m / pw j / n) -> ∃ r, (∃ x y, r = V.list [x, y] /\ Ints x (dg (m / n)) /\ Ints y (dg (m % n))) /\ Comes ref01_divide.K ref01_divide.f ref01_divide.s1 ⟨[i'], [], [a, b, q, rest]⟩ r := by
   intro j
   induction j with
   | zero =>
    intro i' q0 q rest l hj hi hr hq hok hl hz hv
    subst hi
    rw [pw_zero, Nat.div_one] at hr
    rw [pw_zero, Nat.div_one, Nat.one_mul] at hv
    obtain ⟨r, r1, r2⟩ := cut_spec hq hok (by omega)
    rw [hv] at r1
    refine ⟨.list [r, rest], ⟨r, rest, rfl, r1, hr⟩, Comes.last progOk ref01_divide.p3 [r] ?_ ?_⟩
    ·simp [HM, FT, IB, EvOk, E.b, E.i, E.v, Env.ext, Sub.ev, ltB_iff, leB_iff, eqB_iff, eqB_not, ltB_not, leB_not]; exact r2
    ·simp [HM, FT, IB, EvOk, E.b, E.i, E.v, Env.ext, Sub.ev, ltB_iff, leB_iff, eqB_iff, eqB_not, ltB_not, leB_not]; simp [V.snoc, V.els]
   | succ i ih =>
    intro i' q0 q rest l hj hi hr hq hok hl hz hv
    have hi' : i' = (i : Int) := by omega
    subst hi'
    have lr := hr.len
    have lq := hq.len
    have him : i < (dg m).length := by omega
    have g1 := dg_get m i
    rw [if_neg ((dg_lt m i).1 him)] at g1
    have ga := ha.get g1
    have dm := div_pw m i
    have am := Nat.div_add_mod (m / pw i) 10000
    rw [<- dm] at am
    have hd1 : m / pw i % 10000 < 10000 := Nat.mod_lt _ (by omega)
    generalize hD : m / pw i % 10000 = D at *
    generalize hM1 : m / pw (i + 1) = M1 at *
    have hrn : M1 % n < n := Nat.mod_lt _ hn
    generalize hRR : D + 10000 * (M1 % n) = R at *
    have hR : R < n * 10000 := by omega
    have hMR : m / pw i = n * (10000 * (M1 / n)) + R := by
     have := Nat.div_add_mod M1 n
     rw [<- am, <- hRR, Nat.mul_left_comm]
     omega
    have hmod : m / pw i % n = R % n := by rw [hMR, Nat.mul_add_mod]
    have hdiv : m / pw i / n = 10000 * (M1 / n) + R / n := by rw [hMR, Nat.mul_add_div hn]
    have hlr : (dg (M1 % n)).length <= (dg n).length := dg_len (by omega)
    have hlR : (dg R).length <= (dg n).length + 1 := dg_len (by rw [pw_succ]; omega)
    -- the rest with the next digit
    have I1 : Ints (((V.list []).snoc (.int (a.get i).toI)).app rest) ([D] ++ dg (M1 % n)) := by
     rw [ga]; exact (ints_emp.snoc D).app hr
    obtain ⟨r4, r41, r42⟩ := cut_spec I1 (Ok.app (by intro x hx; simp at hx; omega) (ok_dg _)) (by simp; omega)
    have hv4 : val ([D] ++ dg (M1 % n)) = R := by simp [val, val_dg, hRR]
    rw [hv4] at r41
    -- the digit
    have hE := pw_pos (N - 1)
    have hT : 0 < n / pw (N - 1) := by
     have : pw (N - 1) <= n := Nat.le_trans (Nat.pow_le_pow_right (by omega) (by omega)) hNp
     exact Nat.div_pos this hE
    have hcap := quot_cap hE hR (by
     rcases Nat.eq_zero_or_pos N with z | z
     ·left; subst z; rfl
     ·right
      rw [Nat.le_div_iff_mul_le hE, <- pw_succ, show N - 1 + 1 = N from by omega]; exact hNp)
    have hlo := quot_lo (R := R) hE hn
    have hhi := quot_hi (R := R) hE hT
    have hq9 : R / n < 10000 := by rw [Nat.div_lt_iff_lt_mul hn]; omega
    -- after the search
    have I2 : Ints ((V.list []).snoc (.int ((R / n : Nat) : Int))) [R / n] := ints_emp.snoc _
    obtain ⟨r5, r51, r52⟩ := cut_spec I2 (by intro x hx; simp at hx; omega) (by simp)
    simp only [val, Nat.mul_zero, Nat.add_zero] at r51
    have hq1 : (dg (R / n)).length <= 1 := dg_len (by rw [pw_succ, pw_zero]; omega)
    obtain ⟨r6, r61, r62⟩ := times_spec hb r51 (ok_dg _) (by intro x hx; have := ok_dg _ x hx; omega) (by have := val_lt (ok_dg (R / n)); omega) (by omega)
    rw [val_dg, val_dg] at r61
    obtain ⟨r7, r71, r72⟩ := minus_spec r41 r61 (Nat.mul_div_le R n) (by omega)
    have hsub : R - n * (R / n) = m / pw i % n := by
     rw [hmod]; have := Nat.div_add_mod R n; omega
    rw [hsub] at r71
    have hset : l[i]? = some 0 := hz i (by omega)
    have vs := val_set hset (R / n)
    obtain ⟨r, hr1, hr2⟩ := ih ((i : Int) - 1) q (q.set (i : Int) (.int ((R / n : Nat) : Int))) r7 (l.set i (R / n)) (by omega) rfl r71 (hq.set _ _) (hok.set _ _ hq9) (by simp [hl]) (by
      intro t ht
      rw [List.getElem?_set_ne (by omega)]; exact hz t (by omega)) (by
      rw [hdiv]
      rw [pw_succ] at hv
      rw [Nat.mul_add]
      have : 10000 * pw i * (M1 / n) = pw i * (10000 * (M1 / n)) := by ac_rfl
      have e2 : R / n * pw i = pw i * (R / n) := Nat.mul_comm _ _
      omega)
    have S3 : ∀ z : List Int, z.length = 7 -> ∃ r, (∃ x y, r = V.list [x, y] /\ Ints x (dg (m / n)) /\ Ints y (dg (m % n))) /\ Comes ref01_divide.K ref01_divide.f ref01_divide.s3 ⟨[((R / n : Nat) : Int), ((R / n : Nat) : Int)] ++ z ++ [(i : Int)], [], [a, b, q, q, r4]⟩ r := by
     intro z hz7
     obtain ⟨z0, z1, z2, z3, z4, z5, z6, rfl⟩ : ∃ z0 z1 z2 z3 z4 z5 z6, z = [z0, z1, z2, z3, z4, z5, z6] := by
      match z, hz7 with
      | [z0, z1, z2, z3, z4, z5, z6], _ => exact ⟨z0, z1, z2, z3, z4, z5, z6, rfl⟩
     refine ⟨r, hr1, Comes.step progOk ref01_divide.p11 [r5, r6, r7] ?_ hr2⟩
     simp only [HM, FT, IB, EvOk, E.b, E.i, E.v, Env.ext, List.cons_append, List.nil_append, List.getD_cons_zero, List.getD_cons_succ, List.append_nil, ltB_iff, leB_iff, eqB_not, Bool.and_eq_true, Bool.not_eq_true', ltB_not, leB_not, and_true]
     exact ⟨by omega, by omega, by omega, r52, r62, r72, by omega⟩
    have S3' : ∀ z : List Int, z.length = 7 -> ∃ r, (∃ x y, r = V.list [x, y] /\ Ints x (dg (m / n)) /\ Ints y (dg (m % n))) /\ Comes ref01_divide.K ref01_divide.f ref01_divide.s3 ⟨[((R / pw (N - 1) / (n / pw (N - 1) + 1) : Nat) : Int), ((R / pw (N - 1) / (n / pw (N - 1)) : Nat) : Int)] ++ z ++ [(i : Int)], [], [a, b, q, q, r4]⟩ r := fun z hz7 => divide_search hn hb r41 hR (by omega) z hz7 i (S3 z hz7) _ _ _ _ _ (Nat.sub_add_cancel (Nat.le_trans hlo hhi)) rfl rfl hlo hhi hcap
    have hTb : n / pw (N - 1) < 100000000 := by
     rw [Nat.div_lt_iff_lt_mul hE]
     rcases Nat.eq_zero_or_pos N with z | z
     ·subst z; rw [<- hN, pw_succ, pw_zero] at hnl; rw [pw_zero]; omega
     ·have : pw (N + 1) = 10000 * (10000 * pw (N - 1)) := by rw [pw_succ, <- pw_succ (N - 1), show N - 1 + 1 = N from by omega]
      rw [<- hN] at hnl; omega
    have hFb : R / pw (N - 1) < 1000000000000 := by
     rw [Nat.div_lt_iff_lt_mul hE]
     have : n < 100000000 * pw (N - 1) := by rwa [Nat.div_lt_iff_lt_mul hE] at hTb
     omega
    have tq : ∀ x y : Nat, ((x : Int)).tdiv (y : Int) = ((x / y : Nat) : Int) := by
     intro x y; rw [Int.tdiv_eq_ediv_of_nonneg (by omega)]; rfl
    have mx : maxI 0 ((b.len : Int) - 1 - 1) = ((N - 1 : Nat) : Int) := by unfold maxI; split <;> omega
    have S2 : ∃ r, (∃ x y, r = V.list [x, y] /\ Ints x (dg (m / n)) /\ Ints y (dg (m % n))) /\ Comes ref01_divide.K ref01_divide.f ref01_divide.s2 ⟨[((n / pw (N - 1) : Nat) : Int), ((R / pw (N - 1) : Nat) : Int), ((N - 1 : Nat) : Int) - 1, (i : Int)], [], [a, b, q, q, r4]⟩ r := by
     generalize hTT : n / pw (N - 1) = T at *
     generalize hFF : R / pw (N - 1) = F at *
     have e1 := tq F (T + 1)
     have e2 := tq F T
     rw [Int.natCast_add] at e1
     have b1 : F / (T + 1) <= F := Nat.div_le_self _ _
     have b2 : F / T <= F := Nat.div_le_self _ _
     obtain ⟨r, h1, h2⟩ := S3' [(F : Int), (T : Int), (T : Int) + 1, (F : Int).tdiv ((T : Int) + 1), (F : Int), (T : Int), (F : Int).tdiv (T : Int)] rfl
     rw [<- e1, <- e2] at h2
     refine ⟨r, h1, Comes.step progOk ref01_divide.p8 [] ?_ h2⟩
     simp only [HM, FT, IB, EvOk, E.b, E.i, E.v, Env.ext, List.getD_cons_zero, List.getD_cons_succ, List.append_nil, ltB_iff, leB_iff, eqB_not, Bool.and_eq_true, Bool.not_eq_true', ltB_not, leB_not, and_true, mx, e2]
     simp only [Int.natCast_one] at e1
     rw [e1]
     generalize F / (T + 1) = X at *
     generalize F / T = Y at *
     omega
    obtain ⟨r', h1, h2⟩ := divide_first hN hb r41 hR (by omega) (i : Int) S2 (N + 2 - (N - 1)) (N + 2) 0 0 ((b.len - 1) + 1) (by omega) (Nat.le_refl _) (by
      rw [Nat.div_eq_of_lt (by rw [pw_succ]; rw [<- hN] at hnl; omega)]; rfl) (by
      rw [Nat.div_eq_of_lt (by rw [pw_succ]; rw [<- hN] at hnl; omega)]; rfl) (by omega)
    refine ⟨r', h1, Comes.step progOk ref01_divide.p2 [r4] ?_ h2⟩
    simp [HM, FT, IB, EvOk, E.b, E.i, E.v, Env.ext, Sub.ev, ltB_iff, leB_iff, eqB_iff, eqB_not, ltB_not, leB_not]
    exact ⟨by omega, by omega, r42, by omega⟩
  have hlen : (a.len - (b.len - 1)) = (((dg m).length - N : Nat) : Int) := by omega
  have I0 : Ints (V.rep (a.len - (b.len - 1)) (.int 0)) (List.replicate ((dg m).length - N) 0) := by rw [hlen]; exact Ints.rep _ 0
  have I1 : Ints ((V.list []).app (a.sub (a.len - (b.len - 1)) a.len)) (dg (m / pw ((dg m).length - N) % n)) := by
   have h1 := ha.sub (i := (dg m).length - N) (j := (dg m).length) (by omega) (Nat.le_refl _)
   rw [List.take_length, dg_drop] at h1
   have h2 : m / pw ((dg m).length - N) < n := by
    refine Nat.lt_of_lt_of_le ?_ hNp
    rw [Nat.div_lt_iff_lt_mul (pw_pos _), <- pw_add, show N + ((dg m).length - N) = (dg m).length from by omega]; exact hml
   rw [Nat.mod_eq_of_lt h2, hlen, la]
   have := ints_emp.app h1
   simpa using this
  obtain ⟨r, ⟨x, y, rfl, h1, h2⟩, h3⟩ := outer ((dg m).length - N) ((V.rep (a.len - (b.len - 1)) (.int 0)).len - 1) .nil _ _ _ (Nat.le_refl _) (by rw [I0.len]; simp) I1 I0 (by intro x hx; have := List.eq_of_mem_replicate hx; omega) (by simp) (fun t ht => rep_get ht) (by
   have h2 : m / pw ((dg m).length - N) < n := by
    refine Nat.lt_of_lt_of_le ?_ hNp
    rw [Nat.div_lt_iff_lt_mul (pw_pos _), <- pw_add, show N + ((dg m).length - N) = (dg m).length from by omega]; exact hml
   rw [val_rep, Nat.div_eq_of_lt h2, Nat.mul_zero])
  refine ⟨x, y, h1, h2, Fn.of (C := ref01_divide.K) ref01_divide.b ?_⟩
  refine Comes.step progOk ref01_divide.p1 [] ?_ h3
  have c1 := I0.len
  have h4 := (ha.sub (i := (dg m).length - N) (j := (dg m).length) (by omega) (Nat.le_refl _)).len
  rw [<- hlen, <- la] at h4
  simp only [List.length_replicate] at c1
  simp only [List.length_drop, List.length_take] at h4
  simp only [HM, FT, IB, EvOk, E.b, E.i, E.v, Env.ext, List.getD_cons_zero, List.getD_cons_succ, List.append_nil, ltB_iff, leB_iff, Bool.and_eq_true, Bool.not_eq_true', ltB_not, leB_not, and_true, c1, h4]
  omega
end X
namespace X
open Go Go.Abs Go.Sym
theorem gcd10_loop (a0 b0 : V) : ∀ (n m : Nat) (a b : V), Ints a (dg m) -> Ints b (dg n) -> (dg m).length <= 50000000 -> (dg n).length <= 50000000 -> ∃ r, Ints r (dg (Nat.gcd m n)) /\ Comes ref01_gcd.K ref01_gcd.f ref01_gcd.s1 ⟨[], [], [a0, b0, a, b]⟩ r := by
 intro n
 induction n using Nat.strongRecOn with
 | _ n ih =>
  intro m a b ha hb lm ln
  have lb := hb.len
  by_cases h0 : n = 0
  ·subst h0
   refine ⟨a, by simpa using ha, Comes.last progOk ref01_gcd.p2 [] ?_ ?_⟩
   ·have : b.len = 0 := by simpa [dg_zero] using lb
    simp [HM, FT, IB, EvOk, E.b, E.i, E.v, Env.ext, Sub.ev, ltB_iff, leB_iff, eqB_iff, eqB_not, ltB_not, leB_not]; omega
   ·simp [HM, FT, IB, EvOk, E.b, E.i, E.v, Env.ext, Sub.ev, ltB_iff, leB_iff, eqB_iff, eqB_not, ltB_not, leB_not]
  ·obtain ⟨x, y, h1, h2, h3⟩ := divide_spec ha hb (by omega) lm ln
   have hlt : m % n < n := Nat.mod_lt _ (by omega)
   have hl : (dg (m % n)).length <= (dg n).length := dg_len (by have := val_lt (ok_dg n); rw [val_dg] at this; omega)
   obtain ⟨r, r1, r2⟩ := ih (m % n) hlt n b y hb h2 ln (by omega)
   rw [Nat.gcd_comm n, <- Nat.gcd_rec, Nat.gcd_comm n] at r1
   refine ⟨r, r1, Comes.step progOk ref01_gcd.p1 [.list [x, y]] ?_ r2⟩
   simp [HM, FT, IB, EvOk, E.b, E.i, E.v, Env.ext, Sub.ev, ltB_iff, leB_iff, eqB_iff, eqB_not, ltB_not, leB_not]
   refine ⟨?_, h3⟩
   rw [lb]
   have : 0 < (dg n).length := (dg_lt n 0).2 (by rw [pw_zero]; simp; omega)
   omega
theorem gcd10_spec {a b : V} {m n : Nat} (ha : Ints a (dg m)) (hb : Ints b (dg n)) (lm : (dg m).length <= 50000000) (ln : (dg n).length <= 50000000) : ∃ r, Ints r (dg (Nat.gcd m n)) /\ Fn prog ref01_gcd.f [a, b] r := by
 obtain ⟨r, r1, r2⟩ := gcd10_loop a b n m a b ha hb lm ln
 exact ⟨r, r1, Fn.of (C := ref01_gcd.K) ref01_gcd.b (Comes.step progOk ref01_gcd.p0 [] trivial r2)⟩
def big : Nat := 4611686018427387903
theorem value_loop {a x y : V} {m : Nat} (ha : Ints a (dg m)) (hm : m <= big) : ∀ (j : Nat) (s i : Int), j <= (dg m).length -> i = (j : Int) - 1 -> s = ((m / pw j : Nat) : Int) -> Comes ref01_value.K ref01_value.f ref01_value.s1 ⟨[s, i], [], [a, x, y]⟩ (.list [.int m, .bool true]) := by
 have la := ha.len
 intro j
 induction j with
 | zero =>
  intro s i hj hi hs
  subst hi hs
  refine Comes.last progOk ref01_value.p3 [] ?_ ?_
  ·simp [HM, FT, IB, EvOk, E.b, E.i, E.v, Env.ext, Sub.ev, ltB_iff, leB_iff, eqB_iff, eqB_not, ltB_not, leB_not]
  ·simp [HM, FT, IB, EvOk, E.b, E.i, E.v, Env.ext, Sub.ev, ltB_iff, leB_iff, eqB_iff, eqB_not, ltB_not, leB_not]; simp [V.snoc, V.els, pw_zero]
 | succ j ih =>
  intro s i hj hi hs
  have hi' : i = (j : Int) := by omega
  subst hi' hs
  have g1 := dg_get m j
  rw [if_neg ((dg_lt m j).1 (by omega))] at g1
  have ga := ha.get g1
  have dm := div_pw m j
  have am := Nat.div_add_mod (m / pw j) 10000
  rw [<- dm] at am
  have hd : m / pw j % 10000 < 10000 := Nat.mod_lt _ (by omega)
  have hle : m / pw j <= big := Nat.le_trans (Nat.div_le_self _ _) hm
  generalize m / pw (j + 1) = X at *
  generalize hY : m / pw j % 10000 = Y at *
  have hb5 : (dg m).length <= 5 := dg_len (by unfold pw; unfold big at hm; omega)
  unfold big at hle
  refine Comes.step progOk ref01_value.p2 [] ?_ (ih (10000 * (X : Int) + (a.get (j : Int)).toI) ((j : Int) - 1) (by omega) rfl (by rw [ga, <- am, Int.natCast_add, Int.natCast_mul]; rfl))
  simp only [HM, FT, IB, EvOk, E.b, E.i, E.v, Env.ext, List.getD_cons_zero, List.getD_cons_succ, List.append_nil, ltB_iff, leB_iff, Bool.and_eq_true, Bool.not_eq_true', ltB_not, leB_not, and_true, ga]
  omega
theorem value_spec {a : V} {m : Nat} (ha : Ints a (dg m)) (lm : (dg m).length <= 50000000) : Fn prog ref01_value.f [a] (if m <= big then .list [.int m, .bool true] else .list [.int 0, .bool false]) := by
 have la := ha.len
 obtain ⟨r1, r11, r12⟩ := digits_spec 4611686018427387903 (by omega) (by omega)
 have hc := compare_spec ha r11 (by omega)
 have hbig : ((4611686018427387903 : Int).natAbs) = big := rfl
 rw [hbig] at hc
 clear hbig
 clear r11
 by_cases h : m <= big
 ·rw [if_pos h]
  refine Fn.of (C := ref01_value.K) ref01_value.b (Comes.step progOk ref01_value.p1 [r1, .int (cmpN m big)] ?_ (value_loop ha h (dg m).length 0 (a.len - 1) (Nat.le_refl _) (by rw [la]) ?_))
  ·simp only [HM, FT, IB, EvOk, E.b, E.i, E.v, Env.ext, List.map_cons, List.map_nil, List.cons_append, List.nil_append, List.getD_cons_zero, List.getD_cons_succ, List.append_nil, ltB_iff, leB_iff, Bool.and_eq_true, Bool.not_eq_true', ltB_not, leB_not, and_true]
   refine ⟨r12, hc, ?_, by omega⟩
   show cmpN m big <= 0
   clear hc r12; unfold cmpN; split <;> (try split) <;> omega
  ·rw [Nat.div_eq_of_lt]; · rfl
   have := val_lt (ok_dg m); rwa [val_dg] at this
 ·rw [if_neg h]
  refine Fn.of (C := ref01_value.K) ref01_value.b (Comes.last progOk ref01_value.p0 [r1, .int (cmpN m big)] ?_ ?_)
  ·simp only [HM, FT, IB, EvOk, E.b, E.i, E.v, Env.ext, List.map_cons, List.map_nil, List.cons_append, List.nil_append, List.getD_cons_zero, List.getD_cons_succ, List.append_nil, ltB_iff, leB_iff, Bool.and_eq_true, Bool.not_eq_true', ltB_not, leB_not, and_true]
   refine ⟨r12, hc, ?_⟩
   show 0 < cmpN m big
   clear hc r12; unfold cmpN; split <;> (try split) <;> omega
  ·simp [HM, FT, IB, EvOk, E.b, E.i, E.v, Env.ext, Sub.ev, ltB_iff, leB_iff, eqB_iff, eqB_not, ltB_not, leB_not]; simp [V.snoc, V.els]
def qV (neg : Bool) (n d : Nat) : V := .list [.int (if neg then -(n : Int) else n), .int d]
def madeV (neg : Bool) (n d : Nat) : V :=
 if n / n.gcd d <= big /\ d / n.gcd d <= big then .list [qV neg (n / n.gcd d) (d / n.gcd d), .bool true] else .list [.list [.int 0, .int 0], .bool false]
theorem made_spec {a b : V} {m n : Nat} {neg : Bool} (ha : Ints a (dg m)) (hb : Ints b (dg n)) (hn : 0 < n) (lm : (dg m).length <= 50000000) (ln : (dg n).length <= 50000000) : Fn prog ref01_made.f [.bool neg, a, b] (madeV neg m n) := by
 obtain ⟨r3, r31, r32⟩ := gcd10_spec ha hb lm ln
 have hg : 0 < m.gcd n := Nat.gcd_pos_of_pos_right _ hn
 have lg : (dg (m.gcd n)).length <= (dg n).length := dg_len (by
  have := val_lt (ok_dg n); rw [val_dg] at this
  exact Nat.lt_of_le_of_lt (Nat.gcd_le_right _ hn) this)
 obtain ⟨x4, y4, x41, y41, r4⟩ := divide_spec ha r31 hg lm (by omega)
 obtain ⟨x5, y5, x51, y51, r5⟩ := divide_spec hb r31 hg ln (by omega)
 have l4 : (dg (m / m.gcd n)).length <= (dg m).length := dg_len (by
  have := val_lt (ok_dg m); rw [val_dg] at this
  exact Nat.lt_of_le_of_lt (Nat.div_le_self _ _) this)
 have l5 : (dg (n / m.gcd n)).length <= (dg n).length := dg_len (by
  have := val_lt (ok_dg n); rw [val_dg] at this
  exact Nat.lt_of_le_of_lt (Nat.div_le_self _ _) this)
 have r6 := value_spec x41 (by omega)
 have r7 := value_spec x51 (by omega)
 unfold madeV
 by_cases h1 : m / m.gcd n <= big
 ·rw [if_pos h1] at r6
  by_cases h2 : n / m.gcd n <= big
  ·rw [if_pos h2] at r7
   rw [if_pos ⟨h1, h2⟩]
   generalize m / m.gcd n = M at *
   generalize n / m.gcd n = N at *
   cases neg with
   | true =>
    refine Fn.of (C := ref01_made.K) ref01_made.b (Comes.last progOk ref01_made.p2 [r3, .list [x4, y4], .list [x5, y5], .list [.int M, .bool true], .list [.int N, .bool true]] ?_ ?_)
    ·unfold big at h1 h2
     simp [HM, FT, IB, EvOk, E.b, E.i, E.v, Env.ext, Sub.ev, ltB_iff, leB_iff, eqB_iff, eqB_not, ltB_not, leB_not]
     exact ⟨r32, r4, r5, r6, r7, rfl, rfl, rfl, by simp [V.get, V.els, V.toI]; omega, by simp [V.get, V.els, V.toI]⟩
    ·simp [HM, FT, IB, EvOk, E.b, E.i, E.v, Env.ext, Sub.ev, ltB_iff, leB_iff, eqB_iff, eqB_not, ltB_not, leB_not]; simp [V.snoc, V.els, V.get, V.toI, qV]
   | false =>
    refine Fn.of (C := ref01_made.K) ref01_made.b (Comes.last progOk ref01_made.p3 [r3, .list [x4, y4], .list [x5, y5], .list [.int M, .bool true], .list [.int N, .bool true]] ?_ ?_)
    ·simp [HM, FT, IB, EvOk, E.b, E.i, E.v, Env.ext, Sub.ev, ltB_iff, leB_iff, eqB_iff, eqB_not, ltB_not, leB_not]
     exact ⟨r32, r4, r5, r6, r7, rfl, rfl, rfl⟩
    ·simp [HM, FT, IB, EvOk, E.b, E.i, E.v, Env.ext, Sub.ev, ltB_iff, leB_iff, eqB_iff, eqB_not, ltB_not, leB_not]; simp [V.snoc, V.els, V.get, V.toI, qV]
  ·rw [if_neg h2] at r7
   rw [if_neg (fun h => h2 h.2)]
   refine Fn.of (C := ref01_made.K) ref01_made.b (Comes.last progOk ref01_made.p1 [r3, .list [x4, y4], .list [x5, y5], .list [.int (m / m.gcd n : Nat), .bool true], .list [.int 0, .bool false]] ?_ ?_)
   ·generalize m / m.gcd n = M at *
    generalize n / m.gcd n = N at *
    simp [HM, FT, IB, EvOk, E.b, E.i, E.v, Env.ext, Sub.ev, ltB_iff, leB_iff, eqB_iff, eqB_not, ltB_not, leB_not]
    exact ⟨r32, r4, r5, r6, r7, rfl, rfl⟩
   ·simp [HM, FT, IB, EvOk, E.b, E.i, E.v, Env.ext, Sub.ev, ltB_iff, leB_iff, eqB_iff, eqB_not, ltB_not, leB_not]; simp [V.snoc, V.els]
 ·rw [if_neg h1] at r6
  rw [if_neg (fun h => h1 h.1)]
  generalize (if n / m.gcd n <= big then V.list [.int (n / m.gcd n : Nat), .bool true] else V.list [.int 0, .bool false]) = v7 at r7
  refine Fn.of (C := ref01_made.K) ref01_made.b (Comes.last progOk ref01_made.p0 [r3, .list [x4, y4], .list [x5, y5], .list [.int 0, .bool false], v7] ?_ ?_)
  ·simp [HM, FT, IB, EvOk, E.b, E.i, E.v, Env.ext, Sub.ev, ltB_iff, leB_iff, eqB_iff, eqB_not, ltB_not, leB_not]
   exact ⟨r32, r4, r5, r6, r7, rfl⟩
  ·simp [HM, FT, IB, EvOk, E.b, E.i, E.v, Env.ext, Sub.ev, ltB_iff, leB_iff, eqB_iff, eqB_not, ltB_not, leB_not]; simp [V.snoc, V.els]
def negQ (n d : Int) : Bool := !((decide (n < 0)) == (decide (d < 0)))
def madeI (n d : Int) : V := madeV (negQ n d) n.natAbs d.natAbs
theorem Make10_spec {n d : Int} (hd : d ≠ 0) (h1 : -9223372036854775808 <= n) (h2 : n <= 9223372036854775807) (h3 : -9223372036854775808 <= d) (h4 : d <= 9223372036854775807) : Fn prog ref01_Make.f [.int n, .int d] (madeI n d) := by
 obtain ⟨a, a1, a2⟩ := digits_spec n h1 h2
 obtain ⟨b, b1, b2⟩ := digits_spec d h3 h4
 have l1 : (dg n.natAbs).length <= 5 := dg_len (by unfold pw; omega)
 have l2 : (dg d.natAbs).length <= 5 := dg_len (by unfold pw; omega)
 have r := made_spec (neg := negQ n d) a1 b1 (by omega) (by omega) (by omega)
 refine Fn.of (C := ref01_Make.K) ref01_Make.b (Comes.last progOk ref01_Make.p0 [a, b, madeV (negQ n d) n.natAbs d.natAbs] ?_ ?_)
 ·simp [HM, FT, IB, EvOk, E.b, E.i, E.v, Env.ext, Sub.ev, ltB_iff, leB_iff, eqB_iff, eqB_not, ltB_not, leB_not]
  exact ⟨a2, b2, r⟩
 ·simp [HM, FT, IB, EvOk, E.b, E.i, E.v, Env.ext, Sub.ev, ltB_iff, leB_iff, eqB_iff, eqB_not, ltB_not, leB_not]
  unfold madeI madeV
  split <;> simp [V.snoc, V.els, V.get, V.toI, V.toB, qV]
def ofQ (n d : Int) : V :=
 if n.natAbs / n.natAbs.gcd d.natAbs <= big /\ d.natAbs / n.natAbs.gcd d.natAbs <= big then qV (negQ n d) (n.natAbs / n.natAbs.gcd d.natAbs) (d.natAbs / n.natAbs.gcd d.natAbs) else .list [.int 0, .int 0]
theorem Of_spec {n d : Int} (hd : d ≠ 0) (h1 : -9223372036854775808 <= n) (h2 : n <= 9223372036854775807) (h3 : -9223372036854775808 <= d) (h4 : d <= 9223372036854775807) : Fn prog ref01_Of.f [.int n, .int d] (ofQ n d) := by
 have r := Make10_spec hd h1 h2 h3 h4
 refine Fn.of (C := ref01_Of.K) ref01_Of.b (Comes.last progOk ref01_Of.p0 [madeI n d] ?_ ?_)
 ·simp [HM, FT, IB, EvOk, E.b, E.i, E.v, Env.ext, Sub.ev, ltB_iff, leB_iff, eqB_iff, eqB_not, ltB_not, leB_not]
  exact r
 ·simp [HM, FT, IB, EvOk, E.b, E.i, E.v, Env.ext, Sub.ev, ltB_iff, leB_iff, eqB_iff, eqB_not, ltB_not, leB_not]
  unfold madeI madeV ofQ
  split <;> simp [V.snoc, V.els, V.get, V.toI, V.toB, qV]
end X
namespace X
open Go Go.Abs Go.Sym
theorem evL : (∀ {α β : Type} {f : α -> β} {a : α} {l : List α}, List.map f (a :: l) = f a :: List.map f l) /\ (∀ {α β : Type} {f : α -> β}, List.map f [] = []) /\ (∀ {α : Type} {a : α} {k l : List α}, (a :: k) ++ l = a :: (k ++ l)) /\ (∀ {α : Type} (l : List α), [] ++ l = l) /\ (∀ {α : Type} (l : List α), l ++ [] = l) /\ (∀ {α : Type} {x d : α} {xs : List α}, (x :: xs).getD 0 d = x) /\ (∀ {α : Type} {x d : α} {xs : List α} {n : Nat}, (x :: xs).getD (n + 1) d = xs.getD n d) /\ (∀ z : Int, (V.int z).toI = z) /\ (∀ b : Bool, (V.bool b).toB = b) /\ (∀ {a b : Int}, ltB a b = true ↔ a < b) /\ (∀ {a b : Int}, leB a b = true ↔ a <= b) /\ (∀ {a b : Int}, eqB a b = true ↔ a = b) /\ (∀ {a b : Int}, eqB a b = false ↔ ¬ a = b) /\ (∀ {a b : Int}, ltB a b = false ↔ b <= a) /\ (∀ {a b : Int}, leB a b = false ↔ b < a) /\ (∀ b : Bool, ((!b) = true) = (b = false)) /\ (∀ b : Bool, ((!b) = false) = (b = true)) /\ (∀ b : Bool, (!!b) = b) /\ (∀ a b : Bool, ((a && b) = true) = (a = true /\ b = true)) /\ (∀ p : Prop, (p /\ True) = p) /\ (∀ p : Prop, (True /\ p) = p) :=
 ⟨by simp, by simp, by simp, by simp, by simp, by simp, by simp, by simp [V.toI], by simp [V.toB], ltB_iff, leB_iff, eqB_iff, eqB_not, ltB_not, leB_not, by simp, by simp, by simp, by simp, by simp, by simp⟩
def qn (n d : Nat) : V := .list [.int n, .int d]
def can (a b : Nat) : V := qn (a / a.gcd b) (b / a.gcd b)
theorem can_eq {a b c d : Nat} (hb : 0 < b) (hd : 0 < d) (h : a * d = c * b) : can a b = can c d := by
 have hg : 0 < a.gcd b := Nat.gcd_pos_of_pos_right _ hb
 have hh : 0 < c.gcd d := Nat.gcd_pos_of_pos_right _ hd
 obtain ⟨a', ha⟩ := Nat.gcd_dvd_left a b
 obtain ⟨b', hb'⟩ := Nat.gcd_dvd_right a b
 obtain ⟨c', hc⟩ := Nat.gcd_dvd_left c d
 obtain ⟨d', hd'⟩ := Nat.gcd_dvd_right c d
 have q1 : a / a.gcd b = a' := Nat.div_eq_of_eq_mul_right hg ha
 have q2 : b / a.gcd b = b' := Nat.div_eq_of_eq_mul_right hg hb'
 have q3 : c / c.gcd d = c' := Nat.div_eq_of_eq_mul_right hh hc
 have q4 : d / c.gcd d = d' := Nat.div_eq_of_eq_mul_right hh hd'
 have cop1 : Nat.Coprime a' b' := by
  have := Nat.coprime_div_gcd_div_gcd (m := a) (n := b) hg
  rwa [q1, q2] at this
 have cop2 : Nat.Coprime c' d' := by
  have := Nat.coprime_div_gcd_div_gcd (m := c) (n := d) hh
  rwa [q3, q4] at this
 have hcross : a' * d' = c' * b' := by
  have h1 : a.gcd b * a' * (c.gcd d * d') = c.gcd d * c' * (a.gcd b * b') := by rw [<- ha, <- hb', <- hc, <- hd']; exact h
  have h2 : (a.gcd b * c.gcd d) * (a' * d') = (a.gcd b * c.gcd d) * (c' * b') := by
   calc (a.gcd b * c.gcd d) * (a' * d') = a.gcd b * a' * (c.gcd d * d') := by ac_rfl
    _ = c.gcd d * c' * (a.gcd b * b') := h1
    _ = (a.gcd b * c.gcd d) * (c' * b') := by ac_rfl
  exact Nat.eq_of_mul_eq_mul_left (Nat.mul_pos hg hh) h2
 have hb0 : 0 < b' := Nat.pos_of_ne_zero fun q => by subst q; omega
 have hd0 : 0 < d' := Nat.pos_of_ne_zero fun q => by subst q; omega
 have x1 : b' ∣ d' := cop1.symm.dvd_of_dvd_mul_left (hcross ▸ Nat.dvd_mul_left b' c')
 have x2 : d' ∣ b' := cop2.symm.dvd_of_dvd_mul_left (hcross ▸ Nat.dvd_mul_left d' a')
 have hbd : b' = d' := Nat.dvd_antisymm x1 x2
 have hac : a' = c' := by
  rw [hbd] at hcross
  exact Nat.eq_of_mul_eq_mul_right hd0 hcross
 unfold can
 rw [q1, q2, q3, q4, hbd, hac]
theorem of_can {a b : Nat} (ha : a <= big) (hb : b <= big) (b0 : 0 < b) : Fn prog ref01_Of.f [.int a, .int b] (can a b) := by
 unfold big at ha hb
 have := Of_spec (n := a) (d := b) (by omega) (by omega) (by omega) (by omega) (by omega)
 unfold ofQ at this
 simp only [Int.natAbs_natCast] at this
 rw [if_pos ⟨by have := Nat.div_le_self a (a.gcd b); unfold big; omega, by have := Nat.div_le_self b (a.gcd b); unfold big; omega⟩] at this
 have hn : negQ a b = false := by
  have h1 : decide ((a : Int) < 0) = false := by simp
  have h2 : decide ((b : Int) < 0) = false := by simp
  unfold negQ; rw [h1, h2]; rfl
 rw [hn] at this
 exact this
theorem size_spec (n : Nat) (h : n <= 9223372036854775807) : Fn prog frac_size.f [.int n] (.int n) := by
 refine Fn.of (C := frac_size.K) frac_size.b (Comes.last progOk frac_size.p1 [] ?_ ?_)
 ·simp [HM, FT, IB, EvOk, E.b, E.i, E.v, Env.ext, Sub.ev, ltB_iff, leB_iff, eqB_iff, eqB_not, ltB_not, leB_not, V.get, V.els, V.toI, V.toB, V.snoc, V.len]
 ·simp [HM, FT, IB, EvOk, E.b, E.i, E.v, Env.ext, Sub.ev, ltB_iff, leB_iff, eqB_iff, eqB_not, ltB_not, leB_not, V.get, V.els, V.toI, V.toB, V.snoc, V.len]
  simp [IntKind.wrap, IntKind.signed, IntKind.bits]
  omega
theorem Make_spec {n d : Nat} (hd : 0 < d) (h1 : n <= big) (h2 : d <= big) : Fn prog frac_Make.f [.int n, .int d] (.list [qV false (n / n.gcd d) (d / n.gcd d), .int 0]) := by
 have hg : 0 < n.gcd d := Nat.gcd_pos_of_pos_right _ hd
 have q1 : n / n.gcd d <= n := Nat.div_le_self _ _
 have q2 : d / n.gcd d <= d := Nat.div_le_self _ _
 unfold big at h1 h2
 have s1 := size_spec n (by omega)
 have s2 := size_spec d (by omega)
 have s3 := gcd_spec n d
 have t1 : ((n : Int)).tdiv ((n.gcd d : Nat) : Int) = ((n / n.gcd d : Nat) : Int) := by rw [Int.tdiv_eq_ediv_of_nonneg (by omega)]; rfl
 have t2 : ((d : Int)).tdiv ((n.gcd d : Nat) : Int) = ((d / n.gcd d : Nat) : Int) := by rw [Int.tdiv_eq_ediv_of_nonneg (by omega)]; rfl
 have hg' : ¬ ((n.gcd d : Nat) : Int) = 0 := by omega
 generalize n.gcd d = g at *
 generalize n / g = a at *
 generalize d / g = b at *
 by_cases h0 : n = 0
 ·subst h0
  refine Fn.of (C := frac_Make.K) frac_Make.b (Comes.last progOk frac_Make.p7 [.int (0 : Nat), .int d, .int g, .int (0 : Nat), .int d] ?_ ?_)
  ·simp only [HM, FT, IB, EvOk, E.b, E.i, E.v, Env.ext, List.map_cons, List.map_nil, List.cons_append, List.nil_append, List.getD_cons_zero, List.getD_cons_succ, V.toI, ltB_iff, leB_iff, eqB_iff, eqB_not, Bool.and_eq_true, Bool.not_eq_true', Bool.not_eq_false', ltB_not, leB_not, and_true, t1, t2]
   refine ⟨by omega, s1, s2, s3, by omega, s1, hg', by omega, s2, hg', ?_⟩
   omega
  ·simp only [E.b, E.i, E.v, Env.ext, List.cons_append, List.nil_append, List.getD_cons_zero, List.getD_cons_succ, V.toI, t1, t2, V.snoc, V.els, qV]
   rfl
 ·refine Fn.of (C := frac_Make.K) frac_Make.b (Comes.last progOk frac_Make.p4 [.int n, .int d, .int g, .int n, .int d] ?_ ?_)
  ·simp only [HM, FT, IB, EvOk, E.b, E.i, E.v, Env.ext, List.map_cons, List.map_nil, List.cons_append, List.nil_append, List.getD_cons_zero, List.getD_cons_succ, V.toI, ltB_iff, leB_iff, eqB_iff, eqB_not, Bool.and_eq_true, Bool.not_eq_true', Bool.not_eq_false', ltB_not, leB_not, and_true, t1, t2]
   refine ⟨by omega, s1, s2, s3, by omega, s1, hg', by omega, s2, hg', by omega, by omega, by omega, ?_, by omega, by omega⟩
   have e1 : ltB (n : Int) 0 = false := by rw [ltB_not]; omega
   have e2 : ltB (d : Int) 0 = false := by rw [ltB_not]; omega
   simp [e1, e2]
  ·simp only [E.b, E.i, E.v, Env.ext, List.cons_append, List.nil_append, List.getD_cons_zero, List.getD_cons_succ, V.toI, t1, t2, V.snoc, V.els, qV]
   rfl
end X
namespace X
open Go Go.Abs Go.Sym
def Zs (x : V) (l : List Int) : Prop := x.els = l.map V.int
theorem Zs.len {a : V} {l : List Int} (h : Zs a l) : a.len = l.length := by unfold Zs at h; simp [V.len, h]
theorem Zs.get {a : V} {l : List Int} (h : Zs a l) {i : Nat} {d : Int} (hd : l[i]? = some d) : (a.get (i : Int)).toI = d := by
 unfold Zs at h; simp [V.get, h, hd, V.toI]
theorem Ints.zs {a : V} {l : List Nat} (h : Ints a l) : Zs a (l.map Int.ofNat) := by
 unfold Ints at h; unfold Zs; rw [h, List.map_map]; rfl
structure Tab (R : V) (rows : List (List Int)) : Prop where
 len : R.els.length = rows.length
 row : ∀ (j : Nat) (r : List Int), rows[j]? = some r -> Zs (R.get (j : Int)) r
theorem Tab.lenI {R : V} {rows : List (List Int)} (h : Tab R rows) : R.len = rows.length := by simp [V.len, h.len]
structure GMod (G C o : Int) (R : V) (rows : List (List Int)) : Prop where
 tab : Tab R rows
 rl : rows.length <= 12
 rw : ∀ r ∈ rows, r.length <= 6
 c1 : -9223372036854775808 <= C
 c2 : C <= 9223372036854775807
theorem els_list (l : List V) : (V.list l).els = l := rfl
theorem app_nil_els (x : V) : (V.app .nil x).els = x.els := by
 unfold V.app
 split
 ·rename_i h; rw [h]; rfl
 ·rfl
theorem sub_els (x : V) (i j : Int) : (x.sub i j).els = (x.els.take j.toNat).drop i.toNat := by
 unfold V.sub
 split
 ·simp [V.els]
 ·rfl
theorem get_els {x : V} {i : Nat} (h : i < x.els.length) : x.get (i : Int) = x.els[i] := by simp [V.get, h]
theorem Zs.copy {x : V} {l : List Int} (h : Zs x l) : Zs (V.app .nil x) l := by unfold Zs at *; rw [app_nil_els, h]
theorem Zs.sub {x : V} {l : List Int} (h : Zs x l) (j : Int) : Zs (x.sub 0 j) (l.take j.toNat) := by
 unfold Zs at *; rw [sub_els, h]; simp [List.map_take]
theorem Zs.set {x : V} {l : List Int} (h : Zs x l) (i : Nat) (w : Int) : Zs (x.set (i : Int) (.int w)) (l.set i w) := by
 unfold Zs at *; simp [V.set, els_list, h, List.map_set]
theorem Zs.snoc {x : V} {l : List Int} (h : Zs x l) (w : Int) : Zs (x.snoc (.int w)) (l ++ [w]) := by
 unfold Zs at *; simp [V.snoc, els_list, h]
def TabL : List V -> List (List Int) -> Prop
 | [], [] => True
 | x :: xs, r :: rs => Zs x r /\ TabL xs rs
 | _, _ => False
theorem TabL.get : ∀ {xs : List V} {rs : List (List Int)}, TabL xs rs -> xs.length = rs.length /\ ∀ (j : Nat) (r : List Int), rs[j]? = some r -> ∃ x, xs[j]? = some x /\ Zs x r
 | [], [], _ => ⟨rfl, fun j r h => by simp at h⟩
 | x :: xs, r :: rs, ⟨h1, h2⟩ => by
  obtain ⟨k1, k2⟩ := TabL.get h2
  refine ⟨by simp [k1], fun j r' h => ?_⟩
  cases j with
  | zero => simp at h; subst h; exact ⟨x, rfl, h1⟩
  | succ j => simpa using k2 j r' (by simpa using h)
 | [], _ :: _, h => h.elim
 | _ :: _, [], h => h.elim
theorem TabL.of : ∀ {xs : List V} {rs : List (List Int)}, xs.length = rs.length -> (∀ (j : Nat) (r : List Int), rs[j]? = some r -> ∃ x, xs[j]? = some x /\ Zs x r) -> TabL xs rs
 | [], [], _, _ => trivial
 | x :: xs, r :: rs, hl, h => by
  refine ⟨?_, TabL.of (by simpa using hl) fun j r' hj => by simpa using h (j + 1) r' (by simpa using hj)⟩
  obtain ⟨y, e, k⟩ := h 0 r rfl
  simp at e; subst e; exact k
 | [], _ :: _, hl, _ => by simp at hl
 | _ :: _, [], hl, _ => by simp at hl
theorem tab_iff {R : V} {rows : List (List Int)} : Tab R rows ↔ TabL R.els rows := by
 constructor
 ·intro h
  refine TabL.of h.len fun j r hj => ?_
  have hlt : j < R.els.length := by rw [h.len]; exact (List.getElem?_eq_some_iff.1 hj).1
  exact ⟨R.els[j], List.getElem?_eq_getElem hlt, by rw [<- get_els hlt]; exact h.row j r hj⟩
 ·intro h
  obtain ⟨h1, h2⟩ := h.get
  refine ⟨h1, fun j r hj => ?_⟩
  obtain ⟨x, e, k⟩ := h2 j r hj
  have hlt := (List.getElem?_eq_some_iff.1 e).1
  rw [get_els hlt]
  have : R.els[j] = x := by rw [List.getElem?_eq_getElem hlt] at e; simpa using e
  rw [this]; exact k
theorem TabL.snoc : ∀ {xs : List V} {rs : List (List Int)} {x : V} {r : List Int}, TabL xs rs -> Zs x r -> TabL (xs ++ [x]) (rs ++ [r])
 | [], [], _, _, _, h => ⟨h, trivial⟩
 | _ :: _, _ :: _, _, _, ⟨h1, h2⟩, h => ⟨h1, TabL.snoc h2 h⟩
 | [], _ :: _, _, _, h, _ => h.elim
 | _ :: _, [], _, _, h, _ => h.elim
theorem TabL.set : ∀ {xs : List V} {rs : List (List Int)} {x : V} {r : List Int} (j : Nat), TabL xs rs -> Zs x r -> TabL (xs.set j x) (rs.set j r)
 | [], [], _, _, j, _, h => trivial
 | _ :: _, _ :: _, _, _, 0, ⟨h1, h2⟩, h => ⟨h, h2⟩
 | _ :: _, _ :: _, _, _, j + 1, ⟨h1, h2⟩, h => ⟨h1, TabL.set j h2 h⟩
 | [], _ :: _, _, _, _, h, _ => h.elim
 | _ :: _, [], _, _, _, h, _ => h.elim
theorem TabL.drop : ∀ {xs : List V} {rs : List (List Int)} (j : Nat), TabL xs rs -> TabL (xs.drop j) (rs.drop j)
 | _, _, 0, h => h
 | [], [], _ + 1, _ => trivial
 | _ :: _, _ :: _, j + 1, ⟨_, h2⟩ => TabL.drop j h2
 | [], _ :: _, _ + 1, h => h.elim
 | _ :: _, [], _ + 1, h => h.elim
theorem TabL.take : ∀ {xs : List V} {rs : List (List Int)} (j : Nat), TabL xs rs -> TabL (xs.take j) (rs.take j)
 | _, _, 0, h => by simp [TabL]
 | [], [], _ + 1, _ => trivial
 | _ :: _, _ :: _, j + 1, ⟨h1, h2⟩ => ⟨h1, TabL.take j h2⟩
 | [], _ :: _, _ + 1, h => h.elim
 | _ :: _, [], _ + 1, h => h.elim
theorem Tab.snoc {R x : V} {rows : List (List Int)} {r : List Int} (h : Tab R rows) (k : Zs x r) : Tab (R.snoc x) (rows ++ [r]) := tab_iff.2 ((tab_iff.1 h).snoc k)
theorem Tab.set {R x : V} {rows : List (List Int)} {r : List Int} (h : Tab R rows) (j : Nat) (k : Zs x r) : Tab (R.set (j : Int) x) (rows.set j r) := by
 refine tab_iff.2 ?_
 have := (tab_iff.1 h).set j k
 simpa [V.set, els_list] using this
theorem Tab.sub {R : V} {rows : List (List Int)} (h : Tab R rows) (i j : Int) : Tab (R.sub i j) ((rows.take j.toNat).drop i.toNat) := by
 refine tab_iff.2 ?_
 rw [sub_els]
 exact ((tab_iff.1 h).take _).drop _
theorem tab_nil : Tab .nil [] := tab_iff.2 trivial
theorem tmod_nat (a b : Nat) : ((a : Int)).tmod (b : Int) = ((a % b : Nat) : Int) := by rw [Int.tmod_eq_emod_of_nonneg (Int.natCast_nonneg _)]; rfl
end X
namespace X
open Go Go.Abs Go.Sym
def rsum (G : Int) : Int -> List Int -> Option Int
 | s, [] => some s
 | s, w :: r => if w < 0 \/ G < w then none else rsum G (s + w) r
def rowB (G n : Int) (l : List Int) : Bool :=
 match rsum G 0 l with
 | some s => if (l.length : Int) = n then decide (s = G) else false
 | none => false
theorem rsum_drop {G s : Int} {l : List Int} {i : Nat} {w : Int} (h : l[i]? = some w) : rsum G s (l.drop i) = if w < 0 \/ G < w then none else rsum G (s + w) (l.drop (i + 1)) := by
 have hlt := (List.getElem?_eq_some_iff.1 h).1
 rw [List.drop_eq_getElem_cons hlt]
 rw [List.getElem?_eq_getElem hlt] at h
 cases h
 rfl
theorem hrow_spec {x : V} {l : List Int} (hx : Zs x l) (hl : l.length <= 1000) {G : Int} (n : Int) (g1 : 0 <= G) (g2 : G <= 12) : Fn prog hrow.f [x, .int n, .int G] (.bool (rowB G n l)) := by
 have xl := hx.len
 have loop : ∀ (t i : Nat) (s i' : Int), t + i = l.length -> i' = i -> 0 <= s -> s <= 12 * i -> rsum G 0 l = rsum G s (l.drop i) -> Comes hrow.K hrow.f hrow.s1 ⟨[s, i'], [], [x, .int n, .int G]⟩ (.bool (rowB G n l)) := by
  intro t
  induction t with
  | zero =>
   intro i s i' ht hi h0 h1 hs
   subst hi
   have : i = l.length := by omega
   subst this
   rw [List.drop_length] at hs
   have hs : rsum G 0 l = some s := hs
   by_cases hn : (l.length : Int) = n
   ·refine Comes.last progOk hrow.p4 [] ?_ ?_
    ·simp only [HM, FT, IB, EvOk, E.b, E.i, E.v, Env.ext, evL]; rw [xl]; omega
    ·simp only [HM, FT, IB, EvOk, E.b, E.i, E.v, Env.ext, evL]; unfold rowB; rw [hs]; simp only [if_pos hn, eqB]
   ·refine Comes.last progOk hrow.p5 [] ?_ ?_
    ·simp only [HM, FT, IB, EvOk, E.b, E.i, E.v, Env.ext, evL]; rw [xl]; omega
    ·simp only [HM, FT, IB, EvOk, E.b, E.i, E.v, Env.ext, evL]; unfold rowB; rw [hs]; simp only [if_neg hn]
  | succ t ih =>
   intro i s i' ht hi h0 h1 hs
   subst hi
   obtain ⟨w, hw⟩ : ∃ e', l[i]? = some e' := ⟨_, List.getElem?_eq_getElem (by omega)⟩
   have gw := hx.get hw
   rw [rsum_drop hw] at hs
   by_cases a : w < 0
   ·rw [if_pos (.inl a)] at hs
    refine Comes.last progOk hrow.p1 [] ?_ ?_
    ·simp only [HM, FT, IB, EvOk, E.b, E.i, E.v, Env.ext, evL]; rw [xl, gw]; omega
    ·simp only [HM, FT, IB, EvOk, E.b, E.i, E.v, Env.ext, evL]; unfold rowB; rw [hs]
   ·by_cases b : G < w
    ·rw [if_pos (.inr b)] at hs
     refine Comes.last progOk hrow.p2 [] ?_ ?_
     ·simp only [HM, FT, IB, EvOk, E.b, E.i, E.v, Env.ext, evL]; rw [xl, gw]; omega
     ·simp only [HM, FT, IB, EvOk, E.b, E.i, E.v, Env.ext, evL]; unfold rowB; rw [hs]
    ·rw [if_neg (by omega)] at hs
     have nx := ih (i + 1) (s + w) ((i : Int) + 1) (by omega) (by omega) (by omega) (by omega) hs
     rw [<- gw] at nx
     refine Comes.step progOk hrow.p3 [] ?_ nx
     simp only [HM, FT, IB, EvOk, E.b, E.i, E.v, Env.ext, evL]; rw [xl, gw]; omega
 exact Fn.of (C := hrow.K) hrow.b (Comes.step progOk hrow.p0 [] trivial (loop l.length 0 0 0 (by omega) rfl (by omega) (by omega) rfl))
theorem rrow_spec {x : V} {l : List Int} (hx : Zs x l) (hl : l.length <= 1000) {G : Int} (n : Int) (g1 : 0 <= G) (g2 : G <= 12) : Fn prog rrow.f [x, .int n, .int G] (.bool (rowB G n l)) := by
 have xl := hx.len
 have loop : ∀ (t i : Nat) (s i' : Int), t + i = l.length -> i' = i -> 0 <= s -> s <= 12 * i -> rsum G 0 l = rsum G s (l.drop i) -> Comes rrow.K rrow.f rrow.s1 ⟨[s, i'], [], [x, .int n, .int G]⟩ (.bool (rowB G n l)) := by
  intro t
  induction t with
  | zero =>
   intro i s i' ht hi h0 h1 hs
   subst hi
   have : i = l.length := by omega
   subst this
   rw [List.drop_length] at hs
   have hs : rsum G 0 l = some s := hs
   by_cases hn : (l.length : Int) = n
   ·refine Comes.last progOk rrow.p4 [] ?_ ?_
    ·simp only [HM, FT, IB, EvOk, E.b, E.i, E.v, Env.ext, evL]; rw [xl]; omega
    ·simp only [HM, FT, IB, EvOk, E.b, E.i, E.v, Env.ext, evL]; unfold rowB; rw [hs]; simp only [if_pos hn, eqB]
   ·refine Comes.last progOk rrow.p5 [] ?_ ?_
    ·simp only [HM, FT, IB, EvOk, E.b, E.i, E.v, Env.ext, evL]; rw [xl]; omega
    ·simp only [HM, FT, IB, EvOk, E.b, E.i, E.v, Env.ext, evL]; unfold rowB; rw [hs]; simp only [if_neg hn]
  | succ t ih =>
   intro i s i' ht hi h0 h1 hs
   subst hi
   obtain ⟨w, hw⟩ : ∃ e', l[i]? = some e' := ⟨_, List.getElem?_eq_getElem (by omega)⟩
   have gw := hx.get hw
   rw [rsum_drop hw] at hs
   by_cases a : w < 0
   ·rw [if_pos (.inl a)] at hs
    refine Comes.last progOk rrow.p1 [] ?_ ?_
    ·simp only [HM, FT, IB, EvOk, E.b, E.i, E.v, Env.ext, evL]; rw [xl, gw]; omega
    ·simp only [HM, FT, IB, EvOk, E.b, E.i, E.v, Env.ext, evL]; unfold rowB; rw [hs]
   ·by_cases b : G < w
    ·rw [if_pos (.inr b)] at hs
     refine Comes.last progOk rrow.p2 [] ?_ ?_
     ·simp only [HM, FT, IB, EvOk, E.b, E.i, E.v, Env.ext, evL]; rw [xl, gw]; omega
     ·simp only [HM, FT, IB, EvOk, E.b, E.i, E.v, Env.ext, evL]; unfold rowB; rw [hs]
    ·rw [if_neg (by omega)] at hs
     have nx := ih (i + 1) (s + w) ((i : Int) + 1) (by omega) (by omega) (by omega) (by omega) hs
     rw [<- gw] at nx
     refine Comes.step progOk rrow.p3 [] ?_ nx
     simp only [HM, FT, IB, EvOk, E.b, E.i, E.v, Env.ext, evL]; rw [xl, gw]; omega
 exact Fn.of (C := rrow.K) rrow.b (Comes.step progOk rrow.p0 [] trivial (loop l.length 0 0 0 (by omega) rfl (by omega) (by omega) rfl))
end X
namespace X
open Go Go.Abs Go.Sym
def rowsB (G n : Int) (rows : List (List Int)) : Bool := rows.all (rowB G n)
theorem hrows_spec {R : V} {rows : List (List Int)} (tab : Tab R rows) (hl : rows.length <= 1000) (h6 : ∀ r ∈ rows, r.length <= 1000) {G : Int} (k n : Int) (g1 : 0 <= G) (g2 : G <= 12) : Fn prog hrows.f [R, .int k, .int n, .int G] (.bool (rowsB G n rows && decide ((rows.length : Int) = k))) := by
 have xl := tab.lenI
 have loop : ∀ (t i : Nat) (i' : Int), t + i = rows.length -> i' = i -> Comes hrows.K hrows.f hrows.s1 ⟨[i'], [], [R, .int k, .int n, .int G]⟩ (.bool ((rows.drop i).all (rowB G n) && decide ((rows.length : Int) = k))) := by
  intro t
  induction t with
  | zero =>
   intro i i' ht hi
   subst hi
   rw [List.drop_eq_nil_of_le (by omega)]
   refine Comes.last progOk hrows.p3 [] ?_ ?_
   ·simp only [HM, FT, IB, EvOk, E.b, E.i, E.v, Env.ext, evL]; rw [xl]; omega
   ·simp only [HM, FT, IB, EvOk, E.b, E.i, E.v, Env.ext, evL]; rw [xl]; simp [eqB]
  | succ t ih =>
   intro i i' ht hi
   subst hi
   obtain ⟨r, hr⟩ : ∃ e', rows[i]? = some e' := ⟨_, List.getElem?_eq_getElem (by omega)⟩
   have hz := tab.row i r hr
   have f := hrow_spec hz (h6 r (List.mem_of_getElem? hr)) n g1 g2
   have hd : rows.drop i = r :: rows.drop (i + 1) := by
    have hlt := (List.getElem?_eq_some_iff.1 hr).1
    rw [List.drop_eq_getElem_cons hlt]
    rw [List.getElem?_eq_getElem hlt] at hr
    cases hr; rfl
   rw [hd]
   simp only [List.all_cons]
   cases hb : rowB G n r with
   | false =>
    rw [hb] at f
    simp only [Bool.false_and]
    refine Comes.last progOk hrows.p1 [.bool false] ?_ (by simp [E.v, Env.ext, E.b])
    simp only [HM, FT, IB, EvOk, E.b, E.i, E.v, Env.ext, evL]; rw [xl]
    exact ⟨by omega, by omega, f⟩
   | true =>
    rw [hb] at f
    simp only [Bool.true_and]
    refine Comes.step progOk hrows.p2 [.bool true] ?_ (ih (i + 1) ((i : Int) + 1) (by omega) (by omega))
    simp only [HM, FT, IB, EvOk, E.b, E.i, E.v, Env.ext, evL]; rw [xl]
    exact ⟨by omega, by omega, f, by omega⟩
 have := loop rows.length 0 0 (by omega) rfl
 rw [List.drop_zero] at this
 exact Fn.of (C := hrows.K) hrows.b (Comes.step progOk hrows.p0 [] trivial this)
end X
namespace X
open Go Go.Abs Go.Sym
def hm (G : Int) (F S W : V) : V := .list [.int G, F, S, W]
structure HMod (G : Int) (F S W : V) (f : List Int) (s w : List (List Int)) : Prop where
 first : Zs F f
 step : Tab S s
 shw : Tab W w
 f6 : f.length <= 6
 s6 : s.length <= 6
 w6 : w.length <= 6
 sr : ∀ r ∈ s, r.length <= 6
 wr : ∀ r ∈ w, r.length <= 6
def hdl (w : List (List Int)) : Nat := (w.headD []).length
def okH (G : Int) (f : List Int) (s w : List (List Int)) : Bool :=
 decide (1 <= G /\ G <= 12 /\ 1 <= f.length /\ f.length <= 4 /\ w.length = f.length /\ 1 <= hdl w /\ hdl w <= 4) && (rowB G f.length f && ((rowsB G f.length s && decide ((s.length : Int) = f.length)) && (rowsB G (hdl w) w && decide ((w.length : Int) = f.length))))
theorem hd_len {W : V} {w : List (List Int)} (t : Tab W w) (h : 0 < w.length) : (W.get 0).len = (hdl w : Int) := by
 have := (t.row 0 _ (List.getElem?_eq_getElem h)).len
 rw [show ((0 : Nat) : Int) = 0 from rfl] at this
 rw [this]; unfold hdl
 cases w with
 | nil => simp at h
 | cons a l => rfl
theorem hvalid_spec {G : Int} {F S W : V} {f : List Int} {s w : List (List Int)} (M : HMod G F S W f s w) : Fn prog hvalid.f [hm G F S W] (.bool (okH G f s w)) := by
 have m0 : ((hm G F S W).get 0).toI = G := rfl
 have m1 : (hm G F S W).get 1 = F := rfl
 have m2 : (hm G F S W).get 2 = S := rfl
 have m3 : (hm G F S W).get 3 = W := rfl
 have lf := M.first.len
 have ls := M.step.lenI
 have lw := M.shw.lenI
 have h1 := M.f6
 have h2 := M.s6
 have h3 := M.w6
 refine Fn.of (C := hvalid.K) hvalid.b ?_
 by_cases c : 1 <= G /\ G <= 12 /\ 1 <= f.length /\ f.length <= 4 /\ w.length = f.length
 rotate_left
 ·have e : okH G f s w = false := by
   unfold okH
   rw [decide_eq_false (fun q => c ⟨q.1, q.2.1, q.2.2.1, q.2.2.2.1, q.2.2.2.2.1⟩), Bool.false_and]
  rw [e]
  by_cases a0 : G < 1
  ·refine Comes.last progOk hvalid.p0 [] ?_ rfl
   simp only [HM, FT, IB, EvOk, E.b, E.i, E.v, Env.ext, evL]; rw [m0]; omega
  by_cases a1 : 12 < G
  ·refine Comes.last progOk hvalid.p1 [] ?_ rfl
   simp only [HM, FT, IB, EvOk, E.b, E.i, E.v, Env.ext, evL]; rw [m0]; omega
  by_cases a2 : f.length < 1
  ·refine Comes.last progOk hvalid.p2 [] ?_ rfl
   simp only [HM, FT, IB, EvOk, E.b, E.i, E.v, Env.ext, evL]; rw [m0, m1, lf]; omega
  by_cases a3 : 4 < f.length
  ·refine Comes.last progOk hvalid.p3 [] ?_ rfl
   simp only [HM, FT, IB, EvOk, E.b, E.i, E.v, Env.ext, evL]; rw [m0, m1, lf]; omega
  ·refine Comes.last progOk hvalid.p4 [] ?_ rfl
   simp only [HM, FT, IB, EvOk, E.b, E.i, E.v, Env.ext, evL]; rw [m0, m1, m3, lf, lw]; omega
 obtain ⟨c1, c2, c3, c4, c5⟩ := c
 have hw0 := hd_len M.shw (by omega)
 by_cases k1 : 1 <= hdl w
 rotate_left
 ·have e : okH G f s w = false := by
   unfold okH
   rw [decide_eq_false (fun q => k1 q.2.2.2.2.2.1), Bool.false_and]
  rw [e]
  refine Comes.last progOk hvalid.p9 [] ?_ rfl
  simp only [HM, FT, IB, EvOk, E.b, E.i, E.v, Env.ext, evL]; rw [m0, m1, m3, lf, lw, hw0]; omega
 by_cases k2 : hdl w <= 4
 rotate_left
 ·have e : okH G f s w = false := by
   unfold okH
   rw [decide_eq_false (fun q => k2 q.2.2.2.2.2.2), Bool.false_and]
  rw [e]
  refine Comes.last progOk hvalid.p8 [] ?_ rfl
  simp only [HM, FT, IB, EvOk, E.b, E.i, E.v, Env.ext, evL]; rw [m0, m1, m3, lf, lw, hw0]; omega
 have e : okH G f s w = (rowB G f.length f && ((rowsB G f.length s && decide ((s.length : Int) = f.length)) && (rowsB G (hdl w) w && decide ((w.length : Int) = f.length)))) := by
  unfold okH
  rw [decide_eq_true ⟨c1, c2, c3, c4, c5, k1, k2⟩, Bool.true_and]
 rw [e]
 have f1 := hrow_spec M.first (by omega) (G := G) f.length (by omega) c2
 have f2 := hrows_spec M.step (by omega) (fun r h => by have := M.sr r h; omega) (G := G) f.length f.length (by omega) c2
 have f3 := hrows_spec M.shw (by omega) (fun r h => by have := M.wr r h; omega) (G := G) f.length (hdl w) (by omega) c2
 cases hb1 : rowB G f.length f with
 | false =>
  rw [hb1] at f1
  simp only [Bool.false_and]
  refine Comes.last progOk hvalid.p7 [.bool false] ?_ rfl
  simp only [HM, FT, IB, EvOk, E.b, E.i, E.v, Env.ext, evL]; rw [m0, m1, m3, lf, lw, hw0]
  exact ⟨by omega, by omega, by omega, by omega, by omega, by omega, by omega, by omega, f1⟩
 | true =>
  rw [hb1] at f1
  simp only [Bool.true_and]
  cases hb2 : (rowsB G f.length s && decide ((s.length : Int) = f.length)) with
  | false =>
   rw [hb2] at f2
   simp only [Bool.false_and]
   refine Comes.last progOk hvalid.p6 [.bool true, .bool false] ?_ rfl
   simp only [HM, FT, IB, EvOk, E.b, E.i, E.v, Env.ext, evL]; rw [m0, m1, m2, m3, lf, lw, hw0]
   exact ⟨by omega, by omega, by omega, by omega, by omega, by omega, by omega, by omega, f1, f2⟩
  | true =>
   rw [hb2] at f2
   simp only [Bool.true_and]
   refine Comes.last progOk hvalid.p5 [.bool true, .bool true, .bool (rowsB G (hdl w) w && decide ((w.length : Int) = f.length))] ?_ (by simp [E.v, Env.ext, E.b, V.toB])
   simp only [HM, FT, IB, EvOk, E.b, E.i, E.v, Env.ext, evL]; rw [m0, m1, m2, m3, lf, lw, hw0]
   exact ⟨by omega, by omega, by omega, by omega, by omega, by omega, by omega, by omega, f1, f2, f3⟩
end X
namespace X
open Go Go.Abs Go.Sym
theorem rsum_true {G : Int} : ∀ {l : List Int} {s t : Int}, rsum G s l = some t ↔ (∀ x ∈ l, 0 <= x /\ x <= G) /\ t = s + l.sum
 | [], s, t => by simp [rsum, eq_comm]
 | w :: r, s, t => by
  unfold rsum
  by_cases h : w < 0 \/ G < w
  ·rw [if_pos h]
   constructor
   ·intro q; cases q
   ·rintro ⟨q, _⟩; have := q w (by simp); omega
  ·rw [if_neg h, rsum_true (l := r)]
   simp only [List.mem_cons, forall_eq_or_imp, List.sum_cons]
   constructor
   ·rintro ⟨a, b⟩; exact ⟨⟨by omega, a⟩, by omega⟩
   ·rintro ⟨⟨a, b⟩, c⟩; exact ⟨b, by omega⟩
theorem rowB_true {G n : Int} {l : List Int} : rowB G n l = true ↔ (l.length : Int) = n /\ (∀ x ∈ l, 0 <= x /\ x <= G) /\ l.sum = G := by
 unfold rowB
 cases h : rsum G 0 l with
 | none =>
  constructor
  ·intro q; cases q
  ·rintro ⟨_, b, c⟩
   have : rsum G 0 l = some (0 + l.sum) := rsum_true.2 ⟨b, rfl⟩
   rw [h] at this; cases this
 | some s =>
  obtain ⟨k1, k2⟩ := rsum_true.1 h
  by_cases hn : (l.length : Int) = n
  ·simp only [if_pos hn, decide_eq_true_eq]
   constructor
   ·intro q; exact ⟨hn, k1, by omega⟩
   ·rintro ⟨_, _, c⟩; omega
  ·simp only [if_neg hn]
   constructor
   ·intro q; cases q
   ·rintro ⟨q, _⟩; exact absurd q hn
structure HOk (G : Int) (f : List Int) (s w : List (List Int)) (n k : Nat) : Prop where
 g1 : 1 <= G
 g2 : G <= 12
 n1 : 1 <= n
 n4 : n <= 4
 k1 : 1 <= k
 k4 : k <= 4
 fl : f.length = n
 sl : s.length = n
 wl : w.length = n
 fr : rowB G n f = true
 sr : ∀ r ∈ s, rowB G n r = true
 wr : ∀ r ∈ w, rowB G k r = true
theorem okH_iff {G : Int} {f : List Int} {s w : List (List Int)} : okH G f s w = true ↔ ∃ n k, HOk G f s w n k := by
 unfold okH rowsB
 simp only [Bool.and_eq_true, decide_eq_true_eq, List.all_eq_true]
 constructor
 ·rintro ⟨⟨a1, a2, a3, a4, a5, a6, a7⟩, b, ⟨c, d⟩, ⟨e, f'⟩⟩
  exact ⟨f.length, hdl w, a1, a2, a3, a4, a6, a7, rfl, by omega, by omega, b, c, e⟩
 ·rintro ⟨n, k, H⟩
  have hk : hdl w = k := by
   unfold hdl
   cases hw : w with
   | nil => have := H.wl; have := H.n1; rw [hw] at *; simp at *; omega
   | cons a l =>
    have := (rowB_true.1 (H.wr a (by rw [hw]; simp))).1
    simp; omega
  have := H.fl; have := H.sl; have := H.wl; have := H.g1; have := H.g2; have := H.n1; have := H.n4; have := H.k1; have := H.k4
  refine ⟨⟨by omega, by omega, by omega, by omega, by omega, by omega, by omega⟩, ?_, ⟨?_, by omega⟩, ⟨?_, by omega⟩⟩
  ·rw [H.fl]; exact H.fr
  ·rw [H.fl]; exact H.sr
  ·rw [hk]; exact H.wr
theorem HOk.mod {G : Int} {f : List Int} {s w : List (List Int)} {n k : Nat} (H : HOk G f s w n k) {F S W : V} (h1 : Zs F f) (h2 : Tab S s) (h3 : Tab W w) : HMod G F S W f s w :=
 ⟨h1, h2, h3, by have := H.fl; have := H.n4; omega, by have := H.sl; have := H.n4; omega, by have := H.wl; have := H.n4; omega,
  fun r hr => by have := (rowB_true.1 (H.sr r hr)).1; have := H.n4; omega, fun r hr => by have := (rowB_true.1 (H.wr r hr)).1; have := H.k4; omega⟩
theorem Split17_spec {a : V} {l : List Nat} (ha : Ints a l) (hl : ∀ x ∈ l, x <= 255) {n G : Nat} (n1 : 1 <= n) (n2 : n <= 1000) (hG : G <= 1000) : ∃ r L, Ints r L /\ L.length = n /\ L.sum = G /\ Fn prog Split17.f [.int n, .int G, a] r := by
 have la := ha.len
 have loop : ∀ (t i left : Nat) (i' left' : Int) (out : V) (L : List Nat), t + i = n -> i' = i -> left' = left -> Ints out L -> L.length = i -> L.sum + left = G -> (t = 0 -> left = 0) -> ∃ r, (∃ L, Ints r L /\ L.length = n /\ L.sum = G) /\ Comes Split17.K Split17.f Split17.s1 ⟨[left', i'], [], [.int n, .int G, a, out]⟩ r := by
  intro t
  induction t with
  | zero =>
   intro i left i' left' out L ht hi hle hout hL hs h0
   subst hi hle
   refine ⟨out, ⟨L, hout, by omega, by have := h0 rfl; omega⟩, Comes.last progOk Split17.p4 [] ?_ ?_⟩
   ·simp only [HM, FT, IB, EvOk, E.b, E.i, E.v, Env.ext, evL]; omega
   ·simp only [HM, FT, IB, EvOk, E.b, E.i, E.v, Env.ext, evL]
  | succ t ih =>
   intro i left i' left' out L ht hi hle hout hL hs h0
   subst hi hle
   have lo := hout.len
   by_cases h1 : i < n - 1
   ·by_cases h2 : i < l.length
    ·obtain ⟨d, hd⟩ : ∃ e, l[i]? = some e := ⟨_, List.getElem?_eq_getElem h2⟩
     have gd := ha.get hd
     have hd255 := hl d (List.mem_of_getElem? hd)
     have hm : ((d : Int)).tmod ((left : Int) + 1) = ((d % (left + 1) : Nat) : Int) := by rw [Int.tmod_eq_emod_of_nonneg (by omega)]; rfl
     have hlt : d % (left + 1) < left + 1 := Nat.mod_lt _ (by omega)
     obtain ⟨r, r1, r2⟩ := ih (i + 1) (left - d % (left + 1)) ((i : Int) + 1) ((left : Int) - ((a.get (i : Int)).toI).tmod ((left : Int) + 1)) (out.snoc (.int (((a.get (i : Int)).toI).tmod ((left : Int) + 1)))) (L ++ [d % (left + 1)]) (by omega) (by omega) (by rw [gd, hm]; omega) (by rw [gd, hm]; exact hout.snoc _) (by simp [hL]) (by simp; omega) (by omega)
     refine ⟨r, r1, Comes.step progOk Split17.p1 [] ?_ r2⟩
     simp only [HM, FT, IB, EvOk, E.b, E.i, E.v, Env.ext, evL]
     rw [gd, hm]
     omega
    ·obtain ⟨r, r1, r2⟩ := ih (i + 1) left ((i : Int) + 1) ((left : Int) - 0) (out.snoc (.int 0)) (L ++ [0]) (by omega) (by omega) (by omega) (hout.snoc 0) (by simp [hL]) (by simp; omega) (by omega)
     refine ⟨r, r1, Comes.step progOk Split17.p2 [] ?_ r2⟩
     simp only [HM, FT, IB, EvOk, E.b, E.i, E.v, Env.ext, evL]
     omega
   ·obtain ⟨r, r1, r2⟩ := ih (i + 1) 0 ((i : Int) + 1) ((left : Int) - left) (out.snoc (.int left)) (L ++ [left]) (by omega) (by omega) (by omega) (hout.snoc _) (by simp [hL]) (by simp; omega) (by omega)
    refine ⟨r, r1, Comes.step progOk Split17.p3 [] ?_ r2⟩
    simp only [HM, FT, IB, EvOk, E.b, E.i, E.v, Env.ext, evL]
    omega
 obtain ⟨r, ⟨L, h1, h2, h3⟩, r2⟩ := loop n 0 G 0 G .nil [] (by omega) rfl rfl ints_nil rfl (by simp) (by omega)
 exact ⟨r, L, h1, h2, h3, Fn.of (C := Split17.K) Split17.b (Comes.step progOk Split17.p0 [] trivial r2)⟩
structure Dr (D : V) (g n k : Nat) (l : List Nat) (e : List Nat) (L S : V) : Prop where
 eq : D = .list [.int g, .int n, .int k, L, S]
 g : g <= 255
 n : n <= 255
 k : k <= 255
 L : Ints L l
 S : Ints S e
 lx : ∀ x ∈ l, x <= 255
 ex : ∀ x ∈ e, x <= 255
 ll : l.length <= 9223372036854775807
 el : e.length <= 9223372036854775807
theorem from17_spec {D : V} {g n k : Nat} {l e : List Nat} {L S : V} (X : Dr D g n k l e L S) (at_ : Nat) (ha : at_ <= 1000) : ∃ r p, Ints r p /\ (∀ x ∈ p, x <= 255) /\ p.length <= 4 /\ Fn prog from17.f [D, .int at_] r := by
 have hD := X.eq
 have e3 : D.get 3 = L := by rw [hD]; rfl
 have lL := X.L.len
 have ll := X.ll
 by_cases h0 : l.length = 0
 ·refine ⟨.nil, [], ints_nil, by simp, by simp, Fn.of (C := from17.K) from17.b (Comes.last progOk from17.p0 [] ?_ ?_)⟩
  ·simp only [HM, FT, IB, EvOk, E.b, E.i, E.v, Env.ext, evL]; rw [e3, lL]; omega
  ·simp only [HM, FT, IB, EvOk, E.b, E.i, E.v, Env.ext, evL]
 ·have loop : ∀ (t i : Nat) (i' : Int) (o : V) (p : List Nat), t + i = 4 -> i' = i -> Ints o p -> p.length = i -> (∀ x ∈ p, x <= 255) -> ∃ r, (∃ p, Ints r p /\ (∀ x ∈ p, x <= 255) /\ p.length <= 4) /\ Comes from17.K from17.f from17.s1 ⟨[i'], [], [D, .int at_, o]⟩ r := by
   intro t
   induction t with
   | zero =>
    intro i i' o p ht hi ho hp hx
    subst hi
    refine ⟨o, ⟨p, ho, hx, by omega⟩, Comes.last progOk from17.p3 [] ?_ ?_⟩
    ·simp only [HM, FT, IB, EvOk, E.b, E.i, E.v, Env.ext, evL]; omega
    ·simp only [HM, FT, IB, EvOk, E.b, E.i, E.v, Env.ext, evL]
   | succ t ih =>
    intro i i' o p ht hi ho hp hx
    subst hi
    have lo := ho.len
    have hm : ((at_ : Int) + i).tmod (l.length : Int) = (((at_ + i) % l.length : Nat) : Int) := by
     rw [Int.tmod_eq_emod_of_nonneg (by omega)]; rfl
    have hlt : (at_ + i) % l.length < l.length := Nat.mod_lt _ (by omega)
    obtain ⟨d, hd⟩ : ∃ e, l[(at_ + i) % l.length]? = some e := ⟨_, List.getElem?_eq_getElem hlt⟩
    have gd := X.L.get hd
    have hd255 := X.lx d (List.mem_of_getElem? hd)
    obtain ⟨r, r1, r2⟩ := ih (i + 1) ((i : Int) + 1) (o.snoc (.int d)) (p ++ [d]) (by omega) (by omega) (ho.snoc d) (by simp [hp]) (by intro y hy; simp at hy; rcases hy with hy | hy; exact hx y hy; omega)
    refine ⟨r, r1, Comes.step progOk from17.p2 [] ?_ ?_⟩
    ·simp only [HM, FT, IB, EvOk, E.b, E.i, E.v, Env.ext, evL]; rw [e3, lL, hm]; omega
    ·simp only [Sub.ev, E.v, E.i, Env.ext, List.map_cons, List.map_nil, evL]
     rw [e3, lL, hm, gd]
     exact r2
  obtain ⟨r, ⟨p, h1, h2, h3⟩, r2⟩ := loop 4 0 0 .nil [] (by omega) rfl ints_nil rfl (by simp)
  refine ⟨r, p, h1, h2, h3, Fn.of (C := from17.K) from17.b (Comes.step progOk from17.p1 [] ?_ r2)⟩
  simp only [HM, FT, IB, EvOk, E.b, E.i, E.v, Env.ext, evL]; rw [e3, lL]; omega
end X
