/- Texts of the claim: P_rForward, P_rBackward, P_watch, P_hshows, P_forward, P_backward, P_hForward, P_hBackward, P_htotal, P_hlast, P_possible, P_hProb, P_hFilter, P_hSmooth, P_rTotal, P_rShared, P_rAll, P_rProb, P_rFilter, P_rSmooth, P_SameTable, P_SameQ, P_SameQs, P_HiddenKnows, Paths, SymClosed, AbsPost, SymLaw, Big, T1, Num1, Num2, Num3, Num4, Num5, Num6, QNum, Tabs, Hid1, Hid2. -/
import Derived.Test.YtildjgdhdcoojaaDoorZ10
import Derived.Test.YtildjgdhdcoojaaDoorZ07
import Derived.ChangeSame
import Derived.RowKit3
import Derived.Carry
set_option linter.unusedVariables false
set_option linter.unusedSimpArgs false
namespace X
open Go Go.a9 Go.Sym
namespace aZ
abbrev f : Nat := 19
noncomputable def K : dj := ⟨prog, pl, [(19, 84), (19, 89), (19, 97)], [54, 55, 56, 53], [52]⟩
noncomputable def e0 : SV := .int .i64 (.ab (.get (.vv 0) (.il 0)))
noncomputable def s0 : au := ⟨⟨19, 121, (m (.agg [e0, (.pure 3 (.get (.vv 0) (.il 1)) (q 0 1)), (.pure 27 (.get (.vv 0) (.il 2)) (q 0 2)), (.pure 27 (.get (.vv 0) (.il 3)) (q 0 3))]) (l (.pure 3 (.vv 1) (q 1 0))) z z z), [.code (C 19 [])], [], .run, false, none⟩, [], ⟨0, 2, 2, z⟩⟩
noncomputable def s1 : au := ⟨⟨19, 121, (n (m (.pure 3 (.vv 1) (q 2 0)) (l (.view 1)) z z z) (m (.addr 0 0) (l (.int .i64 (.iv 0))) z z z) z z), [.code (C 19 [1, 1, 0, 1, 0, 0]), .inLoop (C 19 [1, 1, 0, 1, 0, 0]), .inBlock 0, .code (C 19 [1, 1, 1])], [], .run, false, none⟩, [], ⟨2, 6, 4, (m (.cells [e0, (.pure 3 (.get (.vv 0) (.il 1)) (q 3 0)), (.pure 27 (.get (.vv 0) (.il 2)) (q 4 0)), (.pure 27 (.get (.vv 0) (.il 3)) (q 5 0))]) (l (.tree 27 (.vv 3) none)) z z z)⟩⟩
noncomputable def s2 : au := ⟨⟨19, 121, (n (m (.pure 3 (.vv 1) (q 8 0)) (l (.view 1)) z z z) (m (.addr 0 0) (l (.int .i64 (.iv 1))) z z z) (n (l (.pure 27 (.vv 6) (q 12 0))) z z z) (n (l (.int .i64 (.iv 0))) z z z)), [.code (C 19 [1, 1, 0, 1, 0, 0, 1, 0, 0, 0, 1, 0, 1, 0, 1, 0, 0]), .inLoop (C 19 [1, 1, 0, 1, 0, 0, 1, 0, 0, 0, 1, 0, 1, 0, 1, 0, 0]), .inBlock 2, .code (.exit 1), .code (C 19 [1, 1, 0, 1, 0, 0, 1, 0, 0, 1]), .inBlock 1, .code (C 19 [1, 1, 0, 1, 0, 0, 1, 1]), .inLoop (C 19 [1, 1, 0, 1, 0, 0]), .inBlock 0, .code (C 19 [1, 1, 1])], [], .run, false, none⟩, [], ⟨2, 13, 7, (m (.cells [e0, (.pure 3 (.get (.vv 0) (.il 1)) (q 9 0)), (.pure 27 (.get (.vv 0) (.il 2)) (q 10 0)), (.pure 27 (.get (.vv 0) (.il 3)) (q 11 0))]) (l (.tree 27 (.vv 5) none)) z z z)⟩⟩
noncomputable def s3 : au := ⟨⟨19, 121, (n (m (.pure 3 (.vv 1) (q 7 0)) (l (.view 1)) z z z) (m (.addr 0 0) (l (.int .i64 (.iv 0))) (l (.int .i64 (.iv 1))) z z) z z), [.code (C 19 [1, 1, 0, 1, 0, 0, 1, 0, 0, 1, 1, 0, 0]), .inLoop (C 19 [1, 1, 0, 1, 0, 0, 1, 0, 0, 1, 1, 0, 0]), .inBlock 4, .inBlock 1, .code (C 19 [1, 1, 0, 1, 0, 0, 1, 1]), .inLoop (C 19 [1, 1, 0, 1, 0, 0]), .inBlock 0, .code (C 19 [1, 1, 1])], [], .run, false, none⟩, [], ⟨2, 11, 5, (m (.cells [e0, (.pure 3 (.get (.vv 0) (.il 1)) (q 8 0)), (.pure 27 (.get (.vv 0) (.il 2)) (q 9 0)), (.pure 27 (.get (.vv 0) (.il 3)) (q 10 0))]) (l (.tree 27 (.vv 4) none)) z z z)⟩⟩
noncomputable def s4 : au := ⟨⟨19, 121, (n (m (.pure 3 (.vv 1) (q 11 0)) (l (.view 1)) z z z) (m (.addr 0 0) (l (.int .i64 (.iv 1))) (l (.int .i64 (.iv 2))) z z) (n z (l (.int .i64 (.iv 0))) z z) z), [.code (C 19 [1, 1, 0, 1, 0, 0, 1, 0, 0, 1, 1, 0, 0, 1, 0, 0, 1, 0, 0]), .inLoop (C 19 [1, 1, 0, 1, 0, 0, 1, 0, 0, 1, 1, 0, 0, 1, 0, 0, 1, 0, 0]), .inBlock 6, .inBlock 5, .code (C 19 [1, 1, 0, 1, 0, 0, 1, 0, 0, 1, 1, 0, 0, 1, 1]), .inLoop (C 19 [1, 1, 0, 1, 0, 0, 1, 0, 0, 1, 1, 0, 0]), .inBlock 4, .inBlock 1, .code (C 19 [1, 1, 0, 1, 0, 0, 1, 1]), .inLoop (C 19 [1, 1, 0, 1, 0, 0]), .inBlock 0, .code (C 19 [1, 1, 1])], [], .run, false, none⟩, [], ⟨2, 15, 5, (m (.cells [e0, (.pure 3 (.get (.vv 0) (.il 1)) (q 12 0)), (.pure 27 (.get (.vv 0) (.il 2)) (q 13 0)), (.pure 27 (.get (.vv 0) (.il 3)) (q 14 0))]) (l (.tree 27 (.vv 4) none)) z z z)⟩⟩
theorem p0 : af K 20 [] s0 s1 [] ⟨[(.il 0)], [], [(.vv 0), (.vv 1), (.vv 2), (.vv 2)], [(q 0 0), (q 1 0), (q 1 0), (q 0 1), (q 0 2), (q 0 3)]⟩ [(0, (some 0)), (1, (some 1))] = some (s1, [.dU 52 [(HM (.vv 0)), (.aN (.len (.vv 1)))]]) := by kernel_rfl
theorem p1 : af K 36 [true, true] s1 s2 [] ⟨[(.il 0), (.iv 0)], [], [(.vv 0), (.vv 1), (.vv 2), (.vv 3), (.vv 4), (.vv 3), (.vv 5)], (Z [0, 1, 2, 3, 4, 5, 6, 7, 2, 3, 4, 5, 7])⟩ [(0, (some 0)), (1, (some 1))] = some (s2, [.ask (.lt (.iv 0) (.len (.vv 1))), .ask (FT (.add (.iv 0) (.il 1))), .call 53 [(HM (.vv 0)), (.aN (.add (.iv 0) (.il 1)))], .ask (.eI (.vv 4)), .ask (FT (.add (.iv 0) (.il 1))), .call 54 [(HM (.vv 0)), (.aN (.add (.iv 0) (.il 1)))]]) := by kernel_rfl
theorem p2 : af K 28 [true, false] s1 s3 [] ⟨[(.iv 0), (.il 0)], [], [(.vv 0), (.vv 1), (.vv 2), (.vv 3), (.vv 3)], (Z [0, 1, 2, 3, 4, 5, 6, 2, 3, 4, 5])⟩ [(0, (some 0)), (1, (some 1))] = some (s3, [.ask (.lt (.iv 0) (.len (.vv 1))), .ask (FT (.add (.iv 0) (.il 1))), .call 53 [(HM (.vv 0)), (.aN (.add (.iv 0) (.il 1)))], .ask (.not (.eI (.vv 4)))]) := by kernel_rfl
theorem p3 : last K 19 16 [false] s1 = some ((.vv 3), [.ask (.not (.lt (.iv 0) (.len (.vv 1))))]) := by kernel_rfl
theorem p4 : af K 57 [true] s2 s2 [] ⟨[(.add (.iv 0) (.il 1)), (.iv 1)], [], [(.vv 0), (.vv 1), (.vv 2), (.vv 3), (.vv 4), (.set (.vv 5) (.iv 1) (.set (.get (.vv 5) (.iv 1)) (.ab (.get (.get (.vv 6) (.iv 0)) (.iv 1))) (.aN (.add (.ab (.get (.get (.vv 5) (.iv 1)) (.ab (.get (.get (.vv 6) (.iv 0)) (.iv 1))))) (.ab (.vv 7)))))), (.vv 6)], (Z [0, 1, 2, 3, 4, 5, 6, 7, 8, 9, 10, 11, 12])⟩ [(0, (some 0)), (1, (some 1))] = some (s2, [.ask (.lt (.iv 0) (.len (.vv 6))), .ask (IB (.iv 0) (.vv 6)), .ask (IB (.iv 1) (.get (.vv 6) (.iv 0))), .ask (IB (.iv 1) (.vv 5)), .ask (IB (.iv 1) (.vv 5)), .ask (IB (.iv 1) (.vv 5)), .ask (IB (.iv 1) (.vv 5)), .ask (IB (.iv 1) (.vv 5)), .ask (IB (.ab (.get (.get (.vv 6) (.iv 0)) (.iv 1))) (.get (.vv 5) (.iv 1))), .ask (IB (.ab (.get (.get (.vv 6) (.iv 0)) (.iv 1))) (.get (.vv 5) (.iv 1))), .ask (FT (.add (.iv 1) (.il 1))), .ask (.le (.il 0) (.add (.iv 1) (.il 1))), .ask (.le (.add (.iv 1) (.il 1)) (.len (.vv 1))), .ask (IB (.iv 0) (.vv 6)), .call 55 [(HM (.vv 0)), (.cut (.vv 1) (.il 0) (.add (.iv 1) (.il 1))), (.get (.vv 6) (.iv 0))], .ask (IB (.iv 1) (.vv 5)), .ask (IB (.iv 1) (.vv 5)), .ask (IB (.ab (.get (.get (.vv 6) (.iv 0)) (.iv 1))) (.get (.vv 5) (.iv 1))), .ask (FT (.add (.ab (.get (.get (.vv 5) (.iv 1)) (.ab (.get (.get (.vv 6) (.iv 0)) (.iv 1))))) (.ab (.vv 7)))), .ask (IB (.ab (.get (.get (.vv 6) (.iv 0)) (.iv 1))) (.get (.vv 5) (.iv 1))), .ask (IB (.ab (.get (.get (.vv 6) (.iv 0)) (.iv 1))) (.get (.vv 5) (.iv 1))), .ask (FT (.add (.iv 0) (.il 1)))]) := by kernel_rfl
theorem p5 : af K 17 [false] s2 s1 [] ⟨[(.add (.iv 1) (.il 1))], [], [(.vv 0), (.vv 1), (.vv 2), (.vv 5)], (Z [0, 1, 8, 9, 10, 11])⟩ [(0, (some 0)), (1, (some 1))] = some (s1, [.ask (.not (.lt (.iv 0) (.len (.vv 6)))), .ask (FT (.add (.iv 1) (.il 1)))]) := by kernel_rfl
theorem p6 : af K 19 [true] s3 s4 [] ⟨[(.il 0), (.iv 0), (.iv 1)], [], [(.vv 0), (.vv 1), (.vv 2), (.vv 3), (.vv 4)], (Z [0, 1, 2, 3, 4, 5, 6, 7, 8, 9, 10, 7, 8, 9, 10])⟩ [(0, (some 0)), (1, (some 1))] = some (s4, [.ask (.lt (.iv 1) (.len (.get (.vv 0) (.il 1))))]) := by kernel_rfl
theorem p7 : af K 18 [false] s3 s1 [] ⟨[(.add (.iv 0) (.il 1))], [], [(.vv 0), (.vv 1), (.vv 2), (.vv 4)], (Z [0, 1, 7, 8, 9, 10])⟩ [(0, (some 0)), (1, (some 1))] = some (s1, [.ask (.not (.lt (.iv 1) (.len (.get (.vv 0) (.il 1))))), .ask (FT (.add (.iv 0) (.il 1)))]) := by kernel_rfl
theorem p8 : af K 62 [true] s4 s4 [] ⟨[(.add (.iv 0) (.il 1)), (.iv 1), (.iv 2)], [], [(.vv 0), (.vv 1), (.vv 2), (.vv 3), (.set (.vv 4) (.iv 1) (.set (.get (.vv 4) (.iv 1)) (.iv 2) (.aN (.add (.ab (.get (.get (.vv 4) (.iv 1)) (.iv 2))) (.mul (.mul (.ab (.get (.get (.vv 4) (.sub (.iv 1) (.il 1))) (.iv 0))) (.ab (.get (.get (.get (.vv 0) (.il 2)) (.iv 0)) (.iv 2)))) (.ab (.vv 5)))))))], (Z [0, 1, 2, 3, 4, 5, 6, 7, 8, 9, 10, 11, 12, 13, 14])⟩ [(0, (some 0)), (1, (some 1))] = some (s4, [.ask (.lt (.iv 0) (.len (.get (.vv 0) (.il 1)))), .ask (IB (.iv 1) (.vv 4)), .ask (IB (.iv 1) (.vv 4)), .ask (IB (.iv 1) (.vv 4)), .ask (IB (.iv 1) (.vv 4)), .ask (IB (.iv 1) (.vv 4)), .ask (IB (.iv 2) (.get (.vv 4) (.iv 1))), .ask (IB (.iv 2) (.get (.vv 4) (.iv 1))), .ask (FT (.sub (.iv 1) (.il 1))), .ask (IB (.sub (.iv 1) (.il 1)) (.vv 4)), .ask (.not (.eq (.sub (.iv 1) (.il 1)) (.iv 1))), .ask (IB (.sub (.iv 1) (.il 1)) (.vv 4)), .ask (IB (.sub (.iv 1) (.il 1)) (.vv 4)), .ask (IB (.iv 0) (.get (.vv 4) (.sub (.iv 1) (.il 1)))), .ask (IB (.iv 0) (.get (.vv 4) (.sub (.iv 1) (.il 1)))), .ask (IB (.iv 0) (.get (.vv 0) (.il 2))), .ask (IB (.iv 2) (.get (.get (.vv 0) (.il 2)) (.iv 0))), .ask (FT (.mul (.ab (.get (.get (.vv 4) (.sub (.iv 1) (.il 1))) (.iv 0))) (.ab (.get (.get (.get (.vv 0) (.il 2)) (.iv 0)) (.iv 2))))), .ask (IB (.iv 1) (.vv 1)), .call 56 [(HM (.vv 0)), (.aN (.iv 2)), (.aN (.ab (.get (.vv 1) (.iv 1))))], .ask (IB (.iv 1) (.vv 4)), .ask (IB (.iv 1) (.vv 4)), .ask (IB (.iv 2) (.get (.vv 4) (.iv 1))), .ask (IB (.sub (.iv 1) (.il 1)) (.vv 4)), .ask (IB (.iv 0) (.get (.vv 4) (.sub (.iv 1) (.il 1)))), .ask (FT (.mul (.mul (.ab (.get (.get (.vv 4) (.sub (.iv 1) (.il 1))) (.iv 0))) (.ab (.get (.get (.get (.vv 0) (.il 2)) (.iv 0)) (.iv 2)))) (.ab (.vv 5)))), .ask (FT (.add (.ab (.get (.get (.vv 4) (.iv 1)) (.iv 2))) (.mul (.mul (.ab (.get (.get (.vv 4) (.sub (.iv 1) (.il 1))) (.iv 0))) (.ab (.get (.get (.get (.vv 0) (.il 2)) (.iv 0)) (.iv 2)))) (.ab (.vv 5))))), .ask (IB (.iv 2) (.get (.vv 4) (.iv 1))), .ask (IB (.iv 2) (.get (.vv 4) (.iv 1))), .ask (FT (.add (.iv 0) (.il 1)))]) := by kernel_rfl
theorem p9 : af K 18 [false] s4 s3 [] ⟨[(.iv 1), (.add (.iv 2) (.il 1))], [], [(.vv 0), (.vv 1), (.vv 2), (.vv 3), (.vv 4)], (Z [0, 1, 2, 3, 4, 5, 6, 11, 12, 13, 14])⟩ [(0, (some 0)), (1, (some 1))] = some (s3, [.ask (.not (.lt (.iv 0) (.len (.get (.vv 0) (.il 1))))), .ask (FT (.add (.iv 2) (.il 1)))]) := by kernel_rfl
theorem b : aW prog 19 = some s0 := by kernel_rfl
end aZ
end X
namespace X
open Go Go.a9 Go.Sym
namespace aH
abbrev f : Nat := 20
noncomputable def K : dj := ⟨prog, pl, [(20, 50), (20, 55), (20, 80)], [54, 56, 53], [52]⟩
noncomputable def e0 : SV := .int .i64 (.ab (.get (.vv 0) (.il 0)))
noncomputable def e1 : SV := .int .i64 (.len (.vv 1))
noncomputable def s0 : au := ⟨⟨20, 165, (m (.agg [e0, (.pure 3 (.get (.vv 0) (.il 1)) (q 0 1)), (.pure 27 (.get (.vv 0) (.il 2)) (q 0 2)), (.pure 27 (.get (.vv 0) (.il 3)) (q 0 3))]) (l (.pure 3 (.vv 1) (q 1 0))) z z z), [.code (C 20 [])], [], .run, false, none⟩, [], ⟨0, 2, 2, z⟩⟩
noncomputable def s1 : au := ⟨⟨20, 165, (n (m (.pure 3 (.vv 1) (q 2 0)) (l e1) z z z) (m (.addr 0 0) (l (.view 1)) z z z) (n (l (.int .i64 (.iv 0))) z z z) z), [.code (C 20 [1, 1, 1, 0, 1, 0, 0]), .inLoop (C 20 [1, 1, 1, 0, 1, 0, 0]), .inBlock 0, .code (C 20 [1, 1, 1, 1])], [], .run, false, none⟩, [], ⟨2, 6, 4, (m (.cells [e0, (.pure 3 (.get (.vv 0) (.il 1)) (q 3 0)), (.pure 27 (.get (.vv 0) (.il 2)) (q 4 0)), (.pure 27 (.get (.vv 0) (.il 3)) (q 5 0))]) (l (.tree 27 (.vv 3) none)) z z z)⟩⟩
noncomputable def s2 : au := ⟨⟨20, 165, (n (m (.pure 3 (.vv 1) (q 6 0)) (l e1) z z z) (m (.addr 0 0) (l (.view 1)) z z z) (n (l (.int .i64 (.iv 1))) z z z) (n (l (.int .i64 (.iv 0))) z z z)), [.code (C 20 [1, 1, 1, 0, 1, 0, 0, 1, 0, 0, 1, 0, 0]), .inLoop (C 20 [1, 1, 1, 0, 1, 0, 0, 1, 0, 0, 1, 0, 0]), .inBlock 2, .inBlock 1, .code (C 20 [1, 1, 1, 0, 1, 0, 0, 1, 1]), .inLoop (C 20 [1, 1, 1, 0, 1, 0, 0]), .inBlock 0, .code (C 20 [1, 1, 1, 1])], [], .run, false, none⟩, [], ⟨2, 10, 4, (m (.cells [e0, (.pure 3 (.get (.vv 0) (.il 1)) (q 7 0)), (.pure 27 (.get (.vv 0) (.il 2)) (q 8 0)), (.pure 27 (.get (.vv 0) (.il 3)) (q 9 0))]) (l (.tree 27 (.vv 3) none)) z z z)⟩⟩
noncomputable def s3 : au := ⟨⟨20, 165, (n (m (.pure 3 (.vv 1) (q 11 0)) (l e1) (l (.int .i64 (.iv 0))) z z) (m (.addr 0 0) (l (.view 1)) z z z) (n (l (.int .i64 (.iv 1))) z z z) (n (l (.int .i64 (.iv 2))) z z z)), [.code (C 20 [1, 1, 1, 0, 1, 0, 0, 1, 0, 0, 1, 0, 0, 1, 0, 0, 0, 1, 0, 0, 1, 0, 0]), .inLoop (C 20 [1, 1, 1, 0, 1, 0, 0, 1, 0, 0, 1, 0, 0, 1, 0, 0, 0, 1, 0, 0, 1, 0, 0]), .inBlock 4, .code (.exit 3), .code (C 20 [1, 1, 1, 0, 1, 0, 0, 1, 0, 0, 1, 0, 0, 1, 0, 0, 1]), .inBlock 3, .code (C 20 [1, 1, 1, 0, 1, 0, 0, 1, 0, 0, 1, 0, 0, 1, 1]), .inLoop (C 20 [1, 1, 1, 0, 1, 0, 0, 1, 0, 0, 1, 0, 0]), .inBlock 2, .inBlock 1, .code (C 20 [1, 1, 1, 0, 1, 0, 0, 1, 1]), .inLoop (C 20 [1, 1, 1, 0, 1, 0, 0]), .inBlock 0, .code (C 20 [1, 1, 1, 1])], [], .run, false, none⟩, [], ⟨2, 15, 5, (m (.cells [e0, (.pure 3 (.get (.vv 0) (.il 1)) (q 12 0)), (.pure 27 (.get (.vv 0) (.il 2)) (q 13 0)), (.pure 27 (.get (.vv 0) (.il 3)) (q 14 0))]) (l (.tree 27 (.vv 4) none)) z z z)⟩⟩
noncomputable def s4 : au := ⟨⟨20, 165, (n (m (.pure 3 (.vv 1) (q 12 0)) (l e1) z z z) (m (.addr 0 0) (l (.view 1)) (l (.pure 27 (.vv 6) (q 16 0))) z z) (n (l (.int .i64 (.iv 0))) (l (.int .i64 (.iv 2))) z z) (n (l (.int .i64 (.iv 1))) z z z)), [.code (C 20 [1, 1, 1, 0, 1, 0, 0, 1, 0, 0, 1, 0, 0, 1, 0, 0, 1, 1, 1, 0, 0]), .inLoop (C 20 [1, 1, 1, 0, 1, 0, 0, 1, 0, 0, 1, 0, 0, 1, 0, 0, 1, 1, 1, 0, 0]), .inBlock 6, .inBlock 3, .code (C 20 [1, 1, 1, 0, 1, 0, 0, 1, 0, 0, 1, 0, 0, 1, 1]), .inLoop (C 20 [1, 1, 1, 0, 1, 0, 0, 1, 0, 0, 1, 0, 0]), .inBlock 2, .inBlock 1, .code (C 20 [1, 1, 1, 0, 1, 0, 0, 1, 1]), .inLoop (C 20 [1, 1, 1, 0, 1, 0, 0]), .inBlock 0, .code (C 20 [1, 1, 1, 1])], [], .run, false, none⟩, [], ⟨2, 17, 7, (m (.cells [e0, (.pure 3 (.get (.vv 0) (.il 1)) (q 13 0)), (.pure 27 (.get (.vv 0) (.il 2)) (q 14 0)), (.pure 27 (.get (.vv 0) (.il 3)) (q 15 0))]) (l (.tree 27 (.vv 5) none)) z z z)⟩⟩
noncomputable def s5 : au := ⟨⟨20, 165, (n (m (.pure 3 (.vv 1) (q 17 0)) (l e1) z (l (.int .i64 (.iv 1))) z) (m (.addr 0 0) (l (.view 1)) (l (.pure 27 (.vv 6) (q 21 0))) (l (.int .i64 (.iv 2))) z) (n (l (.int .i64 (.iv 3))) (l (.int .i64 (.iv 5))) z z) (n (l (.int .i64 (.iv 4))) (l (.int .i64 (.iv 0))) z z)), [.code (C 20 [1, 1, 1, 0, 1, 0, 0, 1, 0, 0, 1, 0, 0, 1, 0, 0, 1, 1, 1, 0, 0, 1, 0, 0, 1, 0, 1, 0, 0]), .inLoop (C 20 [1, 1, 1, 0, 1, 0, 0, 1, 0, 0, 1, 0, 0, 1, 0, 0, 1, 1, 1, 0, 0, 1, 0, 0, 1, 0, 1, 0, 0]), .inBlock 8, .code (C 20 [1, 1, 1, 0, 1, 0, 0, 1, 0, 0, 1, 0, 0, 1, 0, 0, 1, 1, 1, 0, 0, 1, 0, 0, 1, 1]), .inBlock 7, .code (C 20 [1, 1, 1, 0, 1, 0, 0, 1, 0, 0, 1, 0, 0, 1, 0, 0, 1, 1, 1, 0, 0, 1, 1]), .inLoop (C 20 [1, 1, 1, 0, 1, 0, 0, 1, 0, 0, 1, 0, 0, 1, 0, 0, 1, 1, 1, 0, 0]), .inBlock 6, .inBlock 3, .code (C 20 [1, 1, 1, 0, 1, 0, 0, 1, 0, 0, 1, 0, 0, 1, 1]), .inLoop (C 20 [1, 1, 1, 0, 1, 0, 0, 1, 0, 0, 1, 0, 0]), .inBlock 2, .inBlock 1, .code (C 20 [1, 1, 1, 0, 1, 0, 0, 1, 1]), .inLoop (C 20 [1, 1, 1, 0, 1, 0, 0]), .inBlock 0, .code (C 20 [1, 1, 1, 1])], [], .run, false, none⟩, [], ⟨2, 22, 7, (m (.cells [e0, (.pure 3 (.get (.vv 0) (.il 1)) (q 18 0)), (.pure 27 (.get (.vv 0) (.il 2)) (q 19 0)), (.pure 27 (.get (.vv 0) (.il 3)) (q 20 0))]) (l (.tree 27 (.vv 5) none)) z z z)⟩⟩
theorem p0 : af K 27 [] s0 s1 [] ⟨[(.sub (.len (.vv 1)) (.il 1))], [], [(.vv 0), (.vv 1), (.vv 2), (.vv 2)], [(q 0 0), (q 1 0), (q 1 0), (q 0 1), (q 0 2), (q 0 3)]⟩ [(0, (some 0)), (1, (some 1))] = some (s1, [.dU 52 [(HM (.vv 0)), (.aN (.len (.vv 1)))], .ask (FT (.sub (.len (.vv 1)) (.il 1)))]) := by kernel_rfl
theorem p1 : af K 16 [true] s1 s2 [] ⟨[(.il 0), (.iv 0)], [], [(.vv 0), (.vv 1), (.vv 2), (.vv 3)], (Z [0, 1, 2, 3, 4, 5, 2, 3, 4, 5])⟩ [(0, (some 0)), (1, (some 1))] = some (s2, [.ask (.le (.il 0) (.iv 0))]) := by kernel_rfl
theorem p2 : last K 20 14 [false] s1 = some ((.vv 3), [.ask (.not (.le (.il 0) (.iv 0)))]) := by kernel_rfl
theorem p3 : af K 32 [true, true] s2 s3 [] ⟨[(.il 0), (.iv 1), (.iv 0)], [], [(.vv 0), (.vv 1), (.vv 2), (.vv 3), (.vv 3)], (Z [0, 1, 2, 3, 4, 5, 6, 7, 8, 9, 10, 6, 7, 8, 9])⟩ [(0, (some 0)), (1, (some 1))] = some (s3, [.ask (.lt (.iv 0) (.len (.get (.vv 0) (.il 1)))), .ask (FT (.sub (.len (.vv 1)) (.il 1))), .ask (FT (.sub (.sub (.len (.vv 1)) (.il 1)) (.iv 1))), .call 53 [(HM (.vv 0)), (.aN (.sub (.sub (.len (.vv 1)) (.il 1)) (.iv 1)))], .ask (.not (.eI (.vv 4)))]) := by kernel_rfl
theorem p4 : af K 42 [true, false] s2 s4 [] ⟨[(.iv 1), (.iv 0), (.il 0)], [], [(.vv 0), (.vv 1), (.vv 2), (.vv 3), (.vv 4), (.vv 3), (.vv 5)], (Z [0, 1, 2, 3, 4, 5, 6, 7, 8, 9, 10, 11, 6, 7, 8, 9, 11])⟩ [(0, (some 0)), (1, (some 1))] = some (s4, [.ask (.lt (.iv 0) (.len (.get (.vv 0) (.il 1)))), .ask (FT (.sub (.len (.vv 1)) (.il 1))), .ask (FT (.sub (.sub (.len (.vv 1)) (.il 1)) (.iv 1))), .call 53 [(HM (.vv 0)), (.aN (.sub (.sub (.len (.vv 1)) (.il 1)) (.iv 1)))], .ask (.not (.not (.eI (.vv 4)))), .ask (FT (.sub (.len (.vv 1)) (.il 1))), .ask (FT (.sub (.sub (.len (.vv 1)) (.il 1)) (.iv 1))), .call 54 [(HM (.vv 0)), (.aN (.sub (.sub (.len (.vv 1)) (.il 1)) (.iv 1)))]]) := by kernel_rfl
theorem p5 : af K 18 [false] s2 s1 [] ⟨[(.sub (.iv 1) (.il 1))], [], [(.vv 0), (.vv 1), (.vv 2), (.vv 3)], (Z [0, 1, 6, 7, 8, 9])⟩ [(0, (some 0)), (1, (some 1))] = some (s1, [.ask (.not (.lt (.iv 0) (.len (.get (.vv 0) (.il 1))))), .ask (FT (.sub (.iv 1) (.il 1)))]) := by kernel_rfl
theorem p6 : af K 63 [true] s3 s3 [] ⟨[(.add (.iv 0) (.il 1)), (.iv 1), (.iv 2)], [], [(.vv 0), (.vv 1), (.vv 2), (.vv 3), (.set (.vv 4) (.iv 1) (.set (.get (.vv 4) (.iv 1)) (.iv 2) (.aN (.add (.ab (.get (.get (.vv 4) (.iv 1)) (.iv 2))) (.mul (.mul (.ab (.get (.get (.get (.vv 0) (.il 2)) (.iv 2)) (.iv 0))) (.ab (.vv 5))) (.ab (.get (.get (.vv 4) (.add (.iv 1) (.il 1))) (.iv 0))))))))], (Z [0, 1, 2, 3, 4, 5, 6, 7, 8, 9, 10, 11, 12, 13, 14])⟩ [(0, (some 0)), (1, (some 1))] = some (s3, [.ask (.lt (.iv 0) (.len (.get (.vv 0) (.il 1)))), .ask (IB (.iv 1) (.vv 4)), .ask (IB (.iv 1) (.vv 4)), .ask (IB (.iv 1) (.vv 4)), .ask (IB (.iv 1) (.vv 4)), .ask (IB (.iv 1) (.vv 4)), .ask (IB (.iv 2) (.get (.vv 4) (.iv 1))), .ask (IB (.iv 2) (.get (.vv 4) (.iv 1))), .ask (IB (.iv 2) (.get (.vv 0) (.il 2))), .ask (IB (.iv 0) (.get (.get (.vv 0) (.il 2)) (.iv 2))), .ask (FT (.add (.iv 1) (.il 1))), .ask (IB (.add (.iv 1) (.il 1)) (.vv 1)), .ask (FT (.add (.iv 1) (.il 1))), .ask (IB (.add (.iv 1) (.il 1)) (.vv 4)), .ask (.not (.eq (.add (.iv 1) (.il 1)) (.iv 1))), .ask (IB (.add (.iv 1) (.il 1)) (.vv 4)), .ask (IB (.add (.iv 1) (.il 1)) (.vv 4)), .ask (IB (.iv 0) (.get (.vv 4) (.add (.iv 1) (.il 1)))), .ask (IB (.iv 0) (.get (.vv 4) (.add (.iv 1) (.il 1)))), .call 56 [(HM (.vv 0)), (.aN (.iv 0)), (.aN (.ab (.get (.vv 1) (.add (.iv 1) (.il 1)))))], .ask (IB (.iv 1) (.vv 4)), .ask (IB (.iv 1) (.vv 4)), .ask (IB (.iv 2) (.get (.vv 4) (.iv 1))), .ask (IB (.add (.iv 1) (.il 1)) (.vv 4)), .ask (IB (.iv 0) (.get (.vv 4) (.add (.iv 1) (.il 1)))), .ask (FT (.mul (.ab (.get (.get (.get (.vv 0) (.il 2)) (.iv 2)) (.iv 0))) (.ab (.vv 5)))), .ask (FT (.mul (.mul (.ab (.get (.get (.get (.vv 0) (.il 2)) (.iv 2)) (.iv 0))) (.ab (.vv 5))) (.ab (.get (.get (.vv 4) (.add (.iv 1) (.il 1))) (.iv 0))))), .ask (FT (.add (.ab (.get (.get (.vv 4) (.iv 1)) (.iv 2))) (.mul (.mul (.ab (.get (.get (.get (.vv 0) (.il 2)) (.iv 2)) (.iv 0))) (.ab (.vv 5))) (.ab (.get (.get (.vv 4) (.add (.iv 1) (.il 1))) (.iv 0)))))), .ask (IB (.iv 2) (.get (.vv 4) (.iv 1))), .ask (IB (.iv 2) (.get (.vv 4) (.iv 1))), .ask (FT (.add (.iv 0) (.il 1)))]) := by kernel_rfl
theorem p7 : af K 18 [false] s3 s2 [] ⟨[(.add (.iv 2) (.il 1)), (.iv 1)], [], [(.vv 0), (.vv 1), (.vv 2), (.vv 4)], (Z [0, 1, 2, 3, 4, 5, 11, 12, 13, 14])⟩ [(0, (some 0)), (1, (some 1))] = some (s2, [.ask (.not (.lt (.iv 0) (.len (.get (.vv 0) (.il 1))))), .ask (FT (.add (.iv 2) (.il 1)))]) := by kernel_rfl
theorem p8 : af K 25 [true] s4 s5 [] ⟨[(.il 1), (.iv 1), (.il 0), (.iv 0), (.iv 1), (.iv 2)], [], [(.vv 0), (.vv 1), (.vv 2), (.vv 3), (.vv 4), (.vv 5), (.vv 6)], (Z [0, 1, 2, 3, 4, 5, 6, 7, 8, 9, 10, 11, 12, 13, 14, 15, 16, 12, 13, 14, 15, 16])⟩ [(0, (some 0)), (1, (some 1))] = some (s5, [.ask (.lt (.iv 2) (.len (.vv 6)))]) := by kernel_rfl
theorem p9 : af K 17 [false] s4 s2 [] ⟨[(.add (.iv 1) (.il 1)), (.iv 0)], [], [(.vv 0), (.vv 1), (.vv 2), (.vv 5)], (Z [0, 1, 2, 3, 4, 5, 12, 13, 14, 15])⟩ [(0, (some 0)), (1, (some 1))] = some (s2, [.ask (.not (.lt (.iv 2) (.len (.vv 6)))), .ask (FT (.add (.iv 1) (.il 1)))]) := by kernel_rfl
theorem CI : af K 69 [true] s5 s5 [] ⟨[(.mul (.mul (.iv 0) (.ab (.get (.get (.get (.vv 0) (.il 2)) (.iv 1)) (.ab (.get (.get (.vv 6) (.iv 5)) (.iv 2)))))) (.ab (.vv 7))), (.ab (.get (.get (.vv 6) (.iv 5)) (.iv 2))), (.add (.iv 2) (.il 1)), (.iv 3), (.iv 4), (.iv 5)], [], [(.vv 0), (.vv 1), (.vv 2), (.vv 3), (.vv 4), (.vv 5), (.vv 6)], (Z [0, 1, 2, 3, 4, 5, 6, 7, 8, 9, 10, 11, 12, 13, 14, 15, 16, 17, 18, 19, 20, 21])⟩ [(0, (some 0)), (1, (some 1))] = some (s5, [.ask (IB (.iv 5) (.vv 6)), .ask (.lt (.iv 2) (.len (.get (.vv 6) (.iv 5)))), .ask (IB (.iv 1) (.get (.vv 0) (.il 2))), .ask (IB (.iv 5) (.vv 6)), .ask (IB (.iv 2) (.get (.vv 6) (.iv 5))), .ask (IB (.ab (.get (.get (.vv 6) (.iv 5)) (.iv 2))) (.get (.get (.vv 0) (.il 2)) (.iv 1))), .ask (FT (.mul (.iv 0) (.ab (.get (.get (.get (.vv 0) (.il 2)) (.iv 1)) (.ab (.get (.get (.vv 6) (.iv 5)) (.iv 2))))))), .ask (IB (.iv 5) (.vv 6)), .ask (IB (.iv 2) (.get (.vv 6) (.iv 5))), .ask (FT (.add (.iv 3) (.il 1))), .ask (FT (.add (.add (.iv 3) (.il 1)) (.iv 2))), .ask (IB (.add (.add (.iv 3) (.il 1)) (.iv 2)) (.vv 1)), .call 56 [(HM (.vv 0)), (.aN (.ab (.get (.get (.vv 6) (.iv 5)) (.iv 2)))), (.aN (.ab (.get (.vv 1) (.add (.add (.iv 3) (.il 1)) (.iv 2)))))], .ask (FT (.mul (.mul (.iv 0) (.ab (.get (.get (.get (.vv 0) (.il 2)) (.iv 1)) (.ab (.get (.get (.vv 6) (.iv 5)) (.iv 2)))))) (.ab (.vv 7)))), .ask (IB (.iv 5) (.vv 6)), .ask (IB (.iv 2) (.get (.vv 6) (.iv 5))), .ask (FT (.add (.iv 2) (.il 1)))]) := by kernel_rfl
theorem D1 : af K 38 [false] s5 s4 [] ⟨[(.iv 3), (.iv 4), (.add (.iv 5) (.il 1))], [], [(.vv 0), (.vv 1), (.vv 2), (.vv 3), (.vv 4), (.set (.vv 5) (.iv 3) (.set (.get (.vv 5) (.iv 3)) (.iv 4) (.aN (.add (.ab (.get (.get (.vv 5) (.iv 3)) (.iv 4))) (.iv 0))))), (.vv 6)], (Z [0, 1, 2, 3, 4, 5, 6, 7, 8, 9, 10, 11, 17, 18, 19, 20, 21])⟩ [(0, (some 0)), (1, (some 1))] = some (s4, [.ask (IB (.iv 5) (.vv 6)), .ask (.not (.lt (.iv 2) (.len (.get (.vv 6) (.iv 5))))), .ask (IB (.iv 3) (.vv 5)), .ask (IB (.iv 3) (.vv 5)), .ask (IB (.iv 3) (.vv 5)), .ask (IB (.iv 3) (.vv 5)), .ask (IB (.iv 3) (.vv 5)), .ask (IB (.iv 4) (.get (.vv 5) (.iv 3))), .ask (IB (.iv 4) (.get (.vv 5) (.iv 3))), .ask (FT (.add (.ab (.get (.get (.vv 5) (.iv 3)) (.iv 4))) (.iv 0))), .ask (IB (.iv 4) (.get (.vv 5) (.iv 3))), .ask (IB (.iv 4) (.get (.vv 5) (.iv 3))), .ask (FT (.add (.iv 5) (.il 1)))]) := by kernel_rfl
theorem b : aW prog 20 = some s0 := by kernel_rfl
end aH
end X
namespace X
open Go Go.a9 Go.Sym
namespace watch
abbrev f : Nat := 47
noncomputable def K : dj := ⟨prog, pl, [], [45], []⟩
noncomputable def s0 : au := ⟨⟨47, 43, (m (.agg [(.int .i64 (.ab (.get (.vv 0) (.il 0)))), (.pure 3 (.get (.vv 0) (.il 1)) (q 0 1)), (.pure 27 (.get (.vv 0) (.il 2)) (q 0 2)), (.pure 27 (.get (.vv 0) (.il 3)) (q 0 3))]) (l (.pure 3 (.vv 1) (q 1 0))) z z z), [.code (C 47 [])], [], .run, false, none⟩, [], ⟨0, 2, 2, z⟩⟩
noncomputable def s1 : au := ⟨⟨47, 43, (n (m (.pure 3 (.vv 1) (q 3 0)) (n (l (.pure 3 (.vv 1) (q 7 0))) z z z) z z z) (m (.addr 0 0) (n (l (.int .i64 (.len (.vv 1)))) z z z) z z z) (n (n (l (.int .i64 (.iv 0))) z z z) z z z) (l (.addr 1 0))), [.code (C 47 [1, 1, 1, 0, 1, 0, 0]), .inLoop (C 47 [1, 1, 1, 0, 1, 0, 0]), .inBlock 0, .code (C 47 [1, 1, 1, 1])], [], .run, false, none⟩, [], ⟨2, 8, 3, (m (.cells [(.int .i64 (.ab (.get (.vv 0) (.il 0)))), (.pure 3 (.get (.vv 0) (.il 1)) (q 4 0)), (.pure 27 (.get (.vv 0) (.il 2)) (q 5 0)), (.pure 27 (.get (.vv 0) (.il 3)) (q 6 0))]) (l (.cells [(.int .i64 (.il 0)), .aV, .aV, .aV, .aV])) z z z)⟩⟩
theorem p0 : last K 47 21 [true] s0 = some ((.snoc (.snoc .emp (.snoc (.snoc .emp (.snoc (.snoc (.snoc (.snoc .emp (.aN (.il 0))) .nil) .nil) .nil)) .nil)) (.aN (.il 170))), [.call 45 [(HM (.vv 0))], .ask (.not (.eI (.vv 2)))]) := by kernel_rfl
theorem p1 : last K 47 35 [false, true] s0 = some ((.snoc (.snoc .emp (.snoc (.snoc .emp (.snoc (.snoc (.snoc (.snoc .emp (.aN (.il 0))) .nil) .nil) .nil)) .nil)) (.aN (.il 2))), [.call 45 [(HM (.vv 0))], .ask (.not (.not (.eI (.vv 2)))), .ask (.lt (.len (.vv 1)) (.il 1))]) := by kernel_rfl
theorem p2 : last K 47 35 [false, false, true] s0 = some ((.snoc (.snoc .emp (.snoc (.snoc .emp (.snoc (.snoc (.snoc (.snoc .emp (.aN (.il 0))) .nil) .nil) .nil)) .nil)) (.aN (.il 2))), [.call 45 [(HM (.vv 0))], .ask (.not (.not (.eI (.vv 2)))), .ask (.not (.lt (.len (.vv 1)) (.il 1))), .ask (.lt (.il 8) (.len (.vv 1)))]) := by kernel_rfl
theorem p3 : af K 38 [false, false, false] s0 s1 [] ⟨[(.il 0)], [], [(.vv 0), (.vv 1), (.vv 2)], [(q 0 0), (q 1 0), (q 2 0), (q 1 0), (q 0 1), (q 0 2), (q 0 3), (q 1 0)]⟩ [(0, (some 0)), (1, (some 1))] = some (s1, [.call 45 [(HM (.vv 0))], .ask (.not (.not (.eI (.vv 2)))), .ask (.not (.lt (.len (.vv 1)) (.il 1))), .ask (.not (.lt (.il 8) (.len (.vv 1))))]) := by kernel_rfl
theorem p4 : last K 47 37 [true, true] s1 = some ((.snoc (.snoc .emp (.snoc (.snoc .emp (.snoc (.snoc (.snoc (.snoc .emp (.aN (.il 0))) .nil) .nil) .nil)) .nil)) (.aN (.il 2))), [.ask (.lt (.iv 0) (.len (.vv 1))), .ask (IB (.iv 0) (.vv 1)), .ask (.lt (.ab (.get (.vv 1) (.iv 0))) (.il (-1)))]) := by kernel_rfl
theorem p5 : last K 47 37 [true, false, true] s1 = some ((.snoc (.snoc .emp (.snoc (.snoc .emp (.snoc (.snoc (.snoc (.snoc .emp (.aN (.il 0))) .nil) .nil) .nil)) .nil)) (.aN (.il 2))), [.ask (.lt (.iv 0) (.len (.vv 1))), .ask (IB (.iv 0) (.vv 1)), .ask (.not (.lt (.ab (.get (.vv 1) (.iv 0))) (.il (-1)))), .ask (.lt (.il 0) (.len (.get (.vv 0) (.il 3)))), .ask (.le (.len (.get (.get (.vv 0) (.il 3)) (.il 0))) (.ab (.get (.vv 1) (.iv 0))))]) := by kernel_rfl
theorem p6 : af K 37 [true, false, false] s1 s1 [] ⟨[(.add (.iv 0) (.il 1))], [], [(.vv 0), (.vv 1), (.vv 2)], (Z [0, 1, 2, 3, 4, 5, 6, 7])⟩ [(0, (some 0)), (1, (some 1))] = some (s1, [.ask (.lt (.iv 0) (.len (.vv 1))), .ask (IB (.iv 0) (.vv 1)), .ask (.not (.lt (.ab (.get (.vv 1) (.iv 0))) (.il (-1)))), .ask (.lt (.il 0) (.len (.get (.vv 0) (.il 3)))), .ask (.not (.le (.len (.get (.get (.vv 0) (.il 3)) (.il 0))) (.ab (.get (.vv 1) (.iv 0))))), .ask (FT (.add (.iv 0) (.il 1)))]) := by kernel_rfl
theorem p7 : last K 47 16 [false] s1 = some ((.snoc (.snoc .emp (.snoc (.snoc .emp (HM (.vv 0))) (.vv 1))) (.aN (.il 0))), [.ask (.not (.lt (.iv 0) (.len (.vv 1))))]) := by kernel_rfl
theorem b : aW prog 47 = some s0 := by kernel_rfl
end watch
end X
namespace X
open Go Go.a9 Go.Sym
namespace pC
abbrev f : Nat := 83
noncomputable def K : dj := ⟨prog, pl, [], [], []⟩
noncomputable def s0 : au := ⟨⟨83, 29, (m (.agg [(.int .i64 (.ab (.get (.get (.vv 0) (.il 0)) (.il 0)))), (.pure 3 (.get (.get (.vv 0) (.il 0)) (.il 1)) (q 0 1)), (.pure 27 (.get (.get (.vv 0) (.il 0)) (.il 2)) (q 0 2)), (.pure 27 (.get (.get (.vv 0) (.il 0)) (.il 3)) (q 0 3)), (.pure 3 (.get (.vv 0) (.il 1)) (q 0 4))]) (l (.int .i64 (.ab (.vv 1)))) (l (.int .i64 (.ab (.vv 2)))) z z), [.code (C 83 [])], [], .run, false, none⟩, [], ⟨0, 3, 3, z⟩⟩
theorem p0 : last K 83 24 [true] s0 = some ((.aN (.ab (.get (.get (.vv 0) (.il 0)) (.il 0)))), [.ask (IB (.ab (.vv 1)) (.get (.vv 0) (.il 1))), .ask (.lt (.ab (.get (.get (.vv 0) (.il 1)) (.ab (.vv 1)))) (.il 0))]) := by kernel_rfl
theorem p1 : last K 83 35 [false] s0 = some ((.aN (.ab (.get (.get (.get (.get (.vv 0) (.il 0)) (.il 3)) (.ab (.vv 2))) (.ab (.get (.get (.vv 0) (.il 1)) (.ab (.vv 1))))))), [.ask (IB (.ab (.vv 1)) (.get (.vv 0) (.il 1))), .ask (.not (.lt (.ab (.get (.get (.vv 0) (.il 1)) (.ab (.vv 1)))) (.il 0))), .ask (IB (.ab (.vv 2)) (.get (.get (.vv 0) (.il 0)) (.il 3))), .ask (IB (.ab (.vv 1)) (.get (.vv 0) (.il 1))), .ask (IB (.ab (.get (.get (.vv 0) (.il 1)) (.ab (.vv 1)))) (.get (.get (.get (.vv 0) (.il 0)) (.il 3)) (.ab (.vv 2))))]) := by kernel_rfl
theorem b : aW prog 83 = some s0 := by kernel_rfl
end pC
end X
namespace X
open Go Go.a9 Go.Sym
namespace forward
abbrev f : Nat := 48
noncomputable def K : dj := ⟨prog, pl, [(81, 29)], [83], []⟩
noncomputable def e0 : SV := .int .i64 (.ab (.get (.get (.vv 0) (.il 0)) (.il 0)))
noncomputable def e1 : E := .get (.get (.vv 0) (.il 0)) (.il 1)
noncomputable def e2 : E := .get (.get (.vv 0) (.il 0)) (.il 2)
noncomputable def e3 : E := .get (.get (.vv 0) (.il 0)) (.il 3)
noncomputable def e4 : SV := .func 82 [] [(.addr 0 0)]
noncomputable def s0 : au := ⟨⟨48, 6, (l (.agg [e0, (.pure 3 e1 (q 0 1)), (.pure 27 e2 (q 0 2)), (.pure 27 e3 (q 0 3)), (.pure 3 (.get (.vv 0) (.il 1)) (q 0 4))])), [.code (C 48 [])], [], .run, false, none⟩, [], ⟨0, 1, 1, z⟩⟩
noncomputable def s1 : au := ⟨⟨65, 17, (n (l (.aF 8)) (l (.addr 9 0)) z (l (.int .i64 (.iv 0)))), [.code (C 65 [1, 1, 0, 0]), .inLoop (C 65 [1, 1, 0, 0]), .inBlock 0], [], .run, false, none⟩, [⟨98, 10, (m (.aF 8) (l (.addr 2 0)) (m (.addr 1 0) (l (.func 65 [] [])) z z z) (n (l (.agg [e0, (.pure 3 e1 (q 13 0)), (.pure 27 e2 (q 14 0)), (.pure 27 e3 (q 15 0)), (.pure 3 (.get (.vv 0) (.il 1)) (q 16 0))])) z z z) (m (.int .i64 (.il 0)) (l (.aF 8)) z z z)), [.cU (O 98 []) [(5, [])]], [], .run, false, none⟩, ⟨81, 44, (n (n (l (.addr 3 0)) z z z) z (m (.addr 1 0) (l (.addr 5 0)) z z z) (n (l (.addr 6 0)) z z z)), [.inRangeFunc 8, .inBlock 0, .code (C 81 [1, 1, 1, 1])], [⟨.collected 7, []⟩], .run, false, none⟩, ⟨48, 6, (n z z (l (.agg [e0, (.pure 3 e1 (q 17 0)), (.pure 27 e2 (q 18 0)), (.pure 27 e3 (q 19 0)), (.pure 3 (.get (.vv 0) (.il 1)) (q 20 0))])) (l e4)), [R 48 [1, 0] 2, .code .ret], [], .run, false, none⟩], ⟨10, 22, 3, (m (.cells [e0, (.pure 3 e1 (q 5 0)), (.pure 27 e2 (q 6 0)), (.pure 27 e3 (q 7 0)), (.pure 3 (.get (.vv 0) (.il 1)) (q 8 0))]) (m (.cells [e0, (.pure 3 e1 (q 1 0)), (.pure 27 e2 (q 2 0)), (.pure 27 e3 (q 3 0)), (.pure 3 (.get (.vv 0) (.il 1)) (q 4 0))]) (l (.cells [(.view 4)])) (l (.cells [e0, (.pure 3 e1 (q 9 0)), (.pure 27 e2 (q 10 0)), (.pure 27 e3 (q 11 0)), (.pure 3 (.get (.vv 0) (.il 1)) (q 12 0))])) z z) (m (.cells [(.int .i64 (.il 0))]) (l (.cells [(.pure 3 (.vv 1) (q 21 0))])) z z z) (m (.cells [e4]) (l (.deferred (some []))) z z z) (m (.arr 27 (.vv 2) 0) (l (.loop ⟨.ready, none, 81, 44, (n (n (l (.addr 3 0)) z z z) z (m (.addr 1 0) (l (.addr 5 0)) z z z) (n (l (.addr 6 0)) z z z)), PA 81 [1, 1, 1, 0, 1, 0], (C 81 [1, 1, 1, 0, 1, 0, 0]), (C 81 [1, 1, 1, 0, 1, 0, 1]), 7⟩)) z z z))⟩⟩
noncomputable def s2 : au := ⟨⟨81, 44, (n (n (m (.addr 3 0) (l (.int .i64 (.il 0))) z z z) (l (.int .i64 (.iv 0))) z z) z (n (l (.addr 5 0)) z z z) (n (l (.addr 6 0)) z z (l (.int .i64 (.len e1))))), [.code (C 81 [1, 1, 1, 0, 1, 0, 1, 0, 0, 1, 0, 0]), .inLoop (C 81 [1, 1, 1, 0, 1, 0, 1, 0, 0, 1, 0, 0]), .inBlock 2, .code (C 81 [1, 1, 1, 0, 1, 0, 1, 0, 1]), .inBlock 1], [], .run, false, (some 8)⟩, [⟨65, 17, (n (l (.aF 8)) (m (.addr 9 0) z (l (.bool (.bl true))) z z) (n z (l (.aF 8)) z z) (m (.int .i64 (.iv 0)) z (l (.int .i64 (.iv 0))) z z)), [R 65 [1, 1, 0, 0, 0, 0] 8, .code (C 65 [1, 1, 0, 0, 0, 1]), .code (C 65 [1, 1, 0, 0, 1]), .inLoop (C 65 [1, 1, 0, 0]), .inBlock 0], [], .run, false, none⟩, ⟨98, 10, (m (.aF 8) (l (.addr 2 0)) (m (.addr 1 0) (l (.func 65 [] [])) z z z) (n (l (.agg [e0, (.pure 3 e1 (q 33 0)), (.pure 27 e2 (q 34 0)), (.pure 27 e3 (q 35 0)), (.pure 3 (.get (.vv 0) (.il 1)) (q 36 0))])) z z z) (m (.int .i64 (.il 0)) (l (.aF 8)) z z z)), [.cU (O 98 []) [(5, [])]], [], .run, false, none⟩, ⟨81, 44, (n (n (l (.addr 3 0)) z z z) z (m (.addr 1 0) (l (.addr 5 0)) z z z) (n (l (.addr 6 0)) z z z)), [.inRangeFunc 8, .inBlock 0, .code (C 81 [1, 1, 1, 1])], [⟨.collected 7, []⟩], .run, false, none⟩, ⟨48, 6, (n z z (l (.agg [e0, (.pure 3 e1 (q 37 0)), (.pure 27 e2 (q 38 0)), (.pure 27 e3 (q 39 0)), (.pure 3 (.get (.vv 0) (.il 1)) (q 40 0))])) (l e4)), [R 48 [1, 0] 2, .code .ret], [], .run, false, none⟩], ⟨10, 42, 3, (m (.cells [e0, (.pure 3 e1 (q 21 0)), (.pure 27 e2 (q 22 0)), (.pure 27 e3 (q 23 0)), (.pure 3 (.get (.vv 0) (.il 1)) (q 24 0))]) (m (.cells [e0, (.pure 3 e1 (q 25 0)), (.pure 27 e2 (q 26 0)), (.pure 27 e3 (q 27 0)), (.pure 3 (.get (.vv 0) (.il 1)) (q 28 0))]) (l (.cells [(.view 4)])) (l (.cells [e0, (.pure 3 e1 (q 29 0)), (.pure 27 e2 (q 30 0)), (.pure 27 e3 (q 31 0)), (.pure 3 (.get (.vv 0) (.il 1)) (q 32 0))])) z z) (m (.cells [(.int .i64 (.il 0))]) (l (.cells [(.pure 3 (.vv 1) (q 41 0))])) z z z) (m (.cells [e4]) (l (.deferred (some []))) z z z) (m (.arr 27 (.vv 2) 0) (l (.loop ⟨.busy, none, 81, 44, (n (n (l (.addr 3 0)) z z z) z (m (.addr 1 0) (l (.addr 5 0)) z z z) (n (l (.addr 6 0)) z z z)), PA 81 [1, 1, 1, 0, 1, 0], (C 81 [1, 1, 1, 0, 1, 0, 0]), (C 81 [1, 1, 1, 0, 1, 0, 1]), 7⟩)) z z z))⟩⟩
noncomputable def s3 : au := ⟨⟨82, 46, (m (.int .i64 (.iv 1)) (m (.int .i64 (.iv 0)) z z (l (.int .i64 (.iv 4))) z) z (m (.addr 0 0) z (l (.pure 3 (.vv 2) (q 61 0))) z z) (n (l (.int .i64 (.iv 3))) (l (.int .i64 (.iv 2))) z z)), [.code (C 82 [1, 1, 0, 1, 0, 0]), .inLoop (C 82 [1, 1, 0, 1, 0, 0]), .inBlock 0, .code (C 82 [1, 1, 1])], [], .run, false, none⟩, [⟨81, 44, (n (n (m (.addr 3 0) (l (.int .i64 (.iv 0))) z z z) (m (.int .i64 (.iv 1)) (l (.int .i64 (.iv 1))) z z z) (n (l (.view 10)) z z z) (n (l (.pure 3 (.vv 4) (q 63 0))) z z z)) (n z (m (.int .i64 (.iv 0)) (l (.view 4)) z z z) (n (l e4) z z z) z) (n (l (.addr 5 0)) (n (l (.int .i64 (.iv 1))) z z z) (n (l (.int .i64 (.iv 1))) z z z) z) (n (m (.addr 6 0) (l (.view 4)) z z z) (n (l (.bI 4 (.iv 1) 0)) z z z) (n (l (.int .i64 (.iv 0))) z z z) (l (.int .i64 (.len e1))))), [.cU (O 81 [1, 1, 1, 0, 1, 0, 1, 0, 0, 1, 0, 0, 1, 1, 0, 0, 1]) [(10, [0, 2, 5]), (11, []), (12, [0]), (13, []), (14, [])], .inBlock 3, .code (C 81 [1, 1, 1, 0, 1, 0, 1, 0, 0, 1, 0, 0, 1, 1, 1]), .inLoop (C 81 [1, 1, 1, 0, 1, 0, 1, 0, 0, 1, 0, 0]), .inBlock 2, .code (C 81 [1, 1, 1, 0, 1, 0, 1, 0, 1]), .inBlock 1], [], .run, false, (some 8)⟩, ⟨65, 17, (n (l (.aF 8)) (m (.addr 9 0) z (l (.bool (.bl true))) z z) (n z (l (.aF 8)) z z) (m (.int .i64 (.iv 1)) z (l (.int .i64 (.iv 1))) z z)), [R 65 [1, 1, 0, 0, 0, 0] 8, .code (C 65 [1, 1, 0, 0, 0, 1]), .code (C 65 [1, 1, 0, 0, 1]), .inLoop (C 65 [1, 1, 0, 0]), .inBlock 0], [], .run, false, none⟩, ⟨98, 10, (m (.aF 8) (l (.addr 2 0)) (m (.addr 1 0) (l (.func 65 [] [])) z z z) (n (l (.agg [e0, (.pure 3 e1 (q 53 0)), (.pure 27 e2 (q 54 0)), (.pure 27 e3 (q 55 0)), (.pure 3 (.get (.vv 0) (.il 1)) (q 56 0))])) z z z) (m (.int .i64 (.il 0)) (l (.aF 8)) z z z)), [.cU (O 98 []) [(5, [])]], [], .run, false, none⟩, ⟨81, 44, (n (n (l (.addr 3 0)) z z z) z (m (.addr 1 0) (l (.addr 5 0)) z z z) (n (l (.addr 6 0)) z z z)), [.inRangeFunc 8, .inBlock 0, .code (C 81 [1, 1, 1, 1])], [⟨.collected 7, []⟩], .run, false, none⟩, ⟨48, 6, (n z z (l (.agg [e0, (.pure 3 e1 (q 57 0)), (.pure 27 e2 (q 58 0)), (.pure 27 e3 (q 59 0)), (.pure 3 (.get (.vv 0) (.il 1)) (q 60 0))])) (l e4)), [R 48 [1, 0] 2, .code .ret], [], .run, false, none⟩], ⟨12, 64, 6, (m (.cells [e0, (.pure 3 e1 (q 41 0)), (.pure 27 e2 (q 42 0)), (.pure 27 e3 (q 43 0)), (.pure 3 (.get (.vv 0) (.il 1)) (q 44 0))]) (m (.cells [e0, (.pure 3 e1 (q 45 0)), (.pure 27 e2 (q 46 0)), (.pure 27 e3 (q 47 0)), (.pure 3 (.get (.vv 0) (.il 1)) (q 48 0))]) (l (.cells [(.view 4)])) (l (.cells [e0, (.pure 3 e1 (q 49 0)), (.pure 27 e2 (q 50 0)), (.pure 27 e3 (q 51 0)), (.pure 3 (.get (.vv 0) (.il 1)) (q 52 0))])) z z) (m (.cells [(.int .i64 (.il 0))]) (l (.cells [(.pure 3 (.vv 3) (q 62 0))])) (l (.arr 3 (.vv 1) 0)) z z) (m (.cells [e4]) (l (.deferred (some []))) z z z) (m (.dW 27 3 (.vv 5) (.iv 1) 10) (l (.loop ⟨.busy, none, 81, 44, (n (n (l (.addr 3 0)) z z z) z (m (.addr 1 0) (l (.addr 5 0)) z z z) (n (l (.addr 6 0)) z z z)), PA 81 [1, 1, 1, 0, 1, 0], (C 81 [1, 1, 1, 0, 1, 0, 0]), (C 81 [1, 1, 1, 0, 1, 0, 1]), 7⟩)) z z z))⟩⟩
noncomputable def s4 : au := ⟨⟨81, 44, (n (n (m (.addr 3 0) (l (.int .i64 (.iv 1))) z z z) (l (.int .i64 (.iv 0))) z z) z (n (l (.addr 5 0)) z z z) (n (l (.addr 6 0)) z z (l (.int .i64 (.len e1))))), [.code (C 81 [1, 1, 1, 0, 1, 0, 1, 0, 0, 1, 0, 0]), .inLoop (C 81 [1, 1, 1, 0, 1, 0, 1, 0, 0, 1, 0, 0]), .inBlock 2, .code (C 81 [1, 1, 1, 0, 1, 0, 1, 0, 1]), .inBlock 1], [], .run, false, (some 8)⟩, [⟨65, 17, (n (l (.aF 8)) (m (.addr 9 0) z (l (.bool (.bl true))) z z) (n z (l (.aF 8)) z z) (m (.int .i64 (.iv 0)) z (l (.int .i64 (.iv 0))) z z)), [R 65 [1, 1, 0, 0, 0, 0] 8, .code (C 65 [1, 1, 0, 0, 0, 1]), .code (C 65 [1, 1, 0, 0, 1]), .inLoop (C 65 [1, 1, 0, 0]), .inBlock 0], [], .run, false, none⟩, ⟨98, 10, (m (.aF 8) (l (.addr 2 0)) (m (.addr 1 0) (l (.func 65 [] [])) z z z) (n (l (.agg [e0, (.pure 3 e1 (q 74 0)), (.pure 27 e2 (q 75 0)), (.pure 27 e3 (q 76 0)), (.pure 3 (.get (.vv 0) (.il 1)) (q 77 0))])) z z z) (m (.int .i64 (.il 0)) (l (.aF 8)) z z z)), [.cU (O 98 []) [(5, [])]], [], .run, false, none⟩, ⟨81, 44, (n (n (l (.addr 3 0)) z z z) z (m (.addr 1 0) (l (.addr 5 0)) z z z) (n (l (.addr 6 0)) z z z)), [.inRangeFunc 8, .inBlock 0, .code (C 81 [1, 1, 1, 1])], [⟨.collected 7, []⟩], .run, false, none⟩, ⟨48, 6, (n z z (l (.agg [e0, (.pure 3 e1 (q 78 0)), (.pure 27 e2 (q 79 0)), (.pure 27 e3 (q 80 0)), (.pure 3 (.get (.vv 0) (.il 1)) (q 81 0))])) (l e4)), [R 48 [1, 0] 2, .code .ret], [], .run, false, none⟩], ⟨14, 83, 5, (m (.cells [e0, (.pure 3 e1 (q 62 0)), (.pure 27 e2 (q 63 0)), (.pure 27 e3 (q 64 0)), (.pure 3 (.get (.vv 0) (.il 1)) (q 65 0))]) (m (.cells [e0, (.pure 3 e1 (q 66 0)), (.pure 27 e2 (q 67 0)), (.pure 27 e3 (q 68 0)), (.pure 3 (.get (.vv 0) (.il 1)) (q 69 0))]) (l (.cells [(.view 4)])) (l (.cells [e0, (.pure 3 e1 (q 70 0)), (.pure 27 e2 (q 71 0)), (.pure 27 e3 (q 72 0)), (.pure 3 (.get (.vv 0) (.il 1)) (q 73 0))])) (l (.arr 3 (.vv 2) 0)) z) (m (.cells [(.int .i64 (.il 0))]) (l (.cells [(.pure 3 (.vv 3) (q 82 0))])) z z z) (m (.cells [e4]) (l (.deferred (some []))) z z z) (m (.dW 27 3 (.vv 4) (.iv 0) 13) (l (.loop ⟨.busy, none, 81, 44, (n (n (l (.addr 3 0)) z z z) z (m (.addr 1 0) (l (.addr 5 0)) z z z) (n (l (.addr 6 0)) z z z)), PA 81 [1, 1, 1, 0, 1, 0], (C 81 [1, 1, 1, 0, 1, 0, 0]), (C 81 [1, 1, 1, 0, 1, 0, 1]), 7⟩)) z z z))⟩⟩
theorem p0 : af K 54 [] s0 s1 [] ⟨[(.il 0)], [], [(.vv 0), .nil, (.rep (.len (.get (.vv 0) (.il 1))) .nil)], [(q 0 0), (q 0 1), (q 0 2), (q 0 3), (q 0 4), (q 0 1), (q 0 2), (q 0 3), (q 0 4), (q 0 1), (q 0 2), (q 0 3), (q 0 4), (q 0 1), (q 0 2), (q 0 3), (q 0 4), (q 0 1), (q 0 2), (q 0 3), (q 0 4), .nil]⟩ [(8, (some 8)), (1, (some 1)), (3, (some 3)), (0, (some 0)), (5, (some 5)), (4, (some 4)), (6, (some 6)), (7, (some 7)), (9, (some 9)), (2, (some 2))] = some (s1, [.ask (.and (.le (.il 0) (.len (.get (.vv 0) (.il 1)))) (.le (.len (.get (.vv 0) (.il 1))) (.il 5864062014805)))]) := by kernel_rfl
theorem p1 : af K 28 [true] s1 s2 [] ⟨[(.iv 0)], [], [(.vv 0), (.vv 1), (.vv 2)], (Z [0, 1, 2, 3, 4, 5, 6, 7, 8, 9, 10, 11, 12, 13, 14, 15, 16, 17, 18, 19, 20, 5, 6, 7, 8, 1, 2, 3, 4, 9, 10, 11, 12, 13, 14, 15, 16, 17, 18, 19, 20, 21])⟩ [(3, (some 3)), (0, (some 0)), (5, (some 5)), (4, (some 4)), (6, (some 6)), (8, (some 8)), (1, (some 1)), (7, (some 7)), (9, (some 9)), (2, (some 2))] = some (s2, [.ask (.lt (.iv 0) (.len (.get (.vv 0) (.il 1))))]) := by kernel_rfl
theorem p2 : last K 48 34 [false] s1 = some ((.vv 2), [.ask (.not (.lt (.iv 0) (.len (.get (.vv 0) (.il 1)))))]) := by kernel_rfl
theorem p3 : af K 43 [true] s2 s3 [] ⟨[(.il 0), (.iv 0), (.len (.vv 1)), (.il 0), (.il 0)], [], [(.vv 0), .nil, (.vv 1), (.vv 1), (.vv 1), (.vv 2)], (Z [0, 1, 2, 3, 4, 5, 6, 7, 8, 9, 10, 11, 12, 13, 14, 15, 16, 17, 18, 19, 20, 21, 22, 23, 24, 25, 26, 27, 28, 29, 30, 31, 32, 33, 34, 35, 36, 37, 38, 39, 40, 21, 22, 23, 24, 25, 26, 27, 28, 29, 30, 31, 32, 33, 34, 35, 36, 37, 38, 39, 40, 41, 41, 41])⟩ [(0, (some 0)), (3, (some 3)), (5, (some 5)), (4, (some 4)), (10, (some 10)), (6, (some 6)), (8, (some 8)), (1, (some 1)), (7, (some 7)), (9, (some 9)), (2, (some 2))] = some (s3, [.ask (.lt (.il 0) (.len (.get (.get (.vv 0) (.il 0)) (.il 1)))), .ask (IB (.iv 0) (.vv 2)), .ask (.isNil (.get (.vv 2) (.iv 0))), .ask (IB (.iv 0) (.vv 2)), .ask (IB (.iv 0) (.vv 2))]) := by kernel_rfl
theorem p5 : af K 39 [true] s3 s3 [] ⟨[(.iv 0), (.iv 1), (.iv 2), (.add (.iv 3) (.mul (.ab (.get (.vv 2) (.iv 4))) (.ab (.get (.get (.get (.get (.vv 0) (.il 0)) (.il 2)) (.iv 4)) (.iv 0))))), (.add (.iv 4) (.il 1))], [], [(.vv 0), (.vv 1), (.vv 2), (.vv 3), (.vv 4), (.vv 5)], (Z [0, 1, 2, 3, 4, 5, 6, 7, 8, 9, 10, 11, 12, 13, 14, 15, 16, 17, 18, 19, 20, 21, 22, 23, 24, 25, 26, 27, 28, 29, 30, 31, 32, 33, 34, 35, 36, 37, 38, 39, 40, 41, 42, 43, 44, 45, 46, 47, 48, 49, 50, 51, 52, 53, 54, 55, 56, 57, 58, 59, 60, 61, 62, 63])⟩ [(0, (some 0)), (3, (some 3)), (5, (some 5)), (4, (some 4)), (10, (some 10)), (6, (some 6)), (8, (some 8)), (1, (some 1)), (7, (some 7)), (9, (some 9)), (2, (some 2))] = some (s3, [.ask (.lt (.iv 4) (.iv 2)), .ask (IB (.iv 4) (.vv 2)), .ask (IB (.iv 4) (.get (.get (.vv 0) (.il 0)) (.il 2))), .ask (IB (.iv 0) (.get (.get (.get (.vv 0) (.il 0)) (.il 2)) (.iv 4))), .ask (FT (.mul (.ab (.get (.vv 2) (.iv 4))) (.ab (.get (.get (.get (.get (.vv 0) (.il 0)) (.il 2)) (.iv 4)) (.iv 0))))), .ask (FT (.add (.iv 3) (.mul (.ab (.get (.vv 2) (.iv 4))) (.ab (.get (.get (.get (.get (.vv 0) (.il 0)) (.il 2)) (.iv 4)) (.iv 0)))))), .ask (FT (.add (.iv 4) (.il 1)))]) := by kernel_rfl
theorem p6 : af K 46 [false, true] s3 s4 [] ⟨[(.iv 1), (.add (.iv 0) (.il 1))], [], [(.vv 0), (.vv 1), (.snoc (.vv 1) (.aN (.mul (.ab (.get (.get (.get (.vv 0) (.il 0)) (.il 1)) (.iv 0))) (.ab (.vv 6))))), (.vv 3), (.vv 5)], (Z [0, 1, 2, 3, 4, 5, 6, 7, 8, 9, 10, 11, 12, 13, 14, 15, 16, 17, 18, 19, 20, 21, 22, 23, 24, 25, 26, 27, 28, 29, 30, 31, 32, 33, 34, 35, 36, 37, 38, 39, 40, 41, 42, 43, 44, 45, 46, 47, 48, 49, 50, 51, 52, 53, 54, 55, 56, 57, 58, 59, 60, 61, 41, 42, 43, 44, 45, 46, 47, 48, 49, 50, 51, 52, 53, 54, 55, 56, 57, 58, 59, 60, 62])⟩ [(3, (some 3)), (0, (some 0)), (5, (some 5)), (4, (some 4)), (13, (some 13)), (6, (some 6)), (8, (some 8)), (1, (some 1)), (7, (some 7)), (9, (some 9)), (2, (some 2))] = some (s4, [.ask (.not (.lt (.iv 4) (.iv 2))), .ask (.eq (.iv 1) (.il 0)), .ask (IB (.iv 0) (.get (.get (.vv 0) (.il 0)) (.il 1))), .call 83 [(.snoc (.snoc .emp (HM (.get (.vv 0) (.il 0)))) (.get (.vv 0) (.il 1))), (.aN (.iv 1)), (.aN (.iv 0))], .ask (FT (.mul (.ab (.get (.get (.get (.vv 0) (.il 0)) (.il 1)) (.iv 0))) (.ab (.vv 6)))), .ask (IB (.iv 1) (.vv 5)), .ask (.le (.add (.len (.vv 1)) (.il 1)) (.il 8796093021696)), .ask (IB (.iv 1) (.vv 5)), .ask (IB (.iv 1) (.vv 5)), .ask (FT (.add (.iv 0) (.il 1)))]) := by kernel_rfl
theorem p7 : af K 38 [false, false] s3 s4 [] ⟨[(.iv 1), (.add (.iv 0) (.il 1))], [], [(.vv 0), (.vv 1), (.snoc (.vv 1) (.aN (.mul (.iv 3) (.ab (.vv 6))))), (.vv 3), (.vv 5)], (Z [0, 1, 2, 3, 4, 5, 6, 7, 8, 9, 10, 11, 12, 13, 14, 15, 16, 17, 18, 19, 20, 21, 22, 23, 24, 25, 26, 27, 28, 29, 30, 31, 32, 33, 34, 35, 36, 37, 38, 39, 40, 41, 42, 43, 44, 45, 46, 47, 48, 49, 50, 51, 52, 53, 54, 55, 56, 57, 58, 59, 60, 61, 41, 42, 43, 44, 45, 46, 47, 48, 49, 50, 51, 52, 53, 54, 55, 56, 57, 58, 59, 60, 62])⟩ [(3, (some 3)), (0, (some 0)), (5, (some 5)), (4, (some 4)), (13, (some 13)), (6, (some 6)), (8, (some 8)), (1, (some 1)), (7, (some 7)), (9, (some 9)), (2, (some 2))] = some (s4, [.ask (.not (.lt (.iv 4) (.iv 2))), .ask (.not (.eq (.iv 1) (.il 0))), .call 83 [(.snoc (.snoc .emp (HM (.get (.vv 0) (.il 0)))) (.get (.vv 0) (.il 1))), (.aN (.iv 1)), (.aN (.iv 0))], .ask (FT (.mul (.iv 3) (.ab (.vv 6)))), .ask (IB (.iv 1) (.vv 5)), .ask (.le (.add (.len (.vv 1)) (.il 1)) (.il 8796093021696)), .ask (IB (.iv 1) (.vv 5)), .ask (IB (.iv 1) (.vv 5)), .ask (FT (.add (.iv 0) (.il 1)))]) := by kernel_rfl
theorem p8 : af K 43 [true] s4 s3 [] ⟨[(.iv 1), (.iv 0), (.len (.vv 3)), (.il 0), (.il 0)], [], [(.vv 0), (.vv 2), (.vv 3), (.vv 3), (.vv 3), (.vv 4)], (Z [0, 1, 2, 3, 4, 5, 6, 7, 8, 9, 10, 11, 12, 13, 14, 15, 16, 17, 18, 19, 20, 21, 22, 23, 24, 25, 26, 27, 28, 29, 30, 31, 32, 33, 34, 35, 36, 37, 38, 39, 40, 62, 63, 64, 65, 66, 67, 68, 69, 70, 71, 72, 73, 74, 75, 76, 77, 78, 79, 80, 81, 82, 82, 82])⟩ [(0, (some 0)), (3, (some 3)), (5, (some 5)), (4, (some 4)), (10, (some 13)), (6, (some 6)), (8, (some 8)), (1, (some 1)), (7, (some 7)), (9, (some 9)), (2, (some 2))] = some (s3, [.ask (.lt (.iv 1) (.len (.get (.get (.vv 0) (.il 0)) (.il 1)))), .ask (IB (.iv 0) (.vv 4)), .ask (IB (.iv 0) (.vv 4))]) := by kernel_rfl
theorem p9 : af K 30 [false] s4 s1 [] ⟨[(.add (.iv 0) (.il 1))], [], [(.vv 0), (.get (.set (.vv 4) (.iv 0) (.vv 2)) (.iv 0)), (.set (.vv 4) (.iv 0) (.vv 2))], [(q 0 0), (q 66 0), (q 67 0), (q 68 0), (q 69 0), (q 62 0), (q 63 0), (q 64 0), (q 65 0), (q 70 0), (q 71 0), (q 72 0), (q 73 0), (q 74 0), (q 75 0), (q 76 0), (q 77 0), (q 78 0), (q 79 0), (q 80 0), (q 81 0), (.D8 4 14 (.iv 0) 1 0)]⟩ [(8, (some 8)), (1, (some 1)), (3, (some 3)), (0, (some 0)), (5, (some 5)), (4, (some 4)), (6, (some 6)), (7, (some 7)), (9, (some 9)), (2, (some 2))] = some (s1, [.ask (.not (.lt (.iv 1) (.len (.get (.get (.vv 0) (.il 0)) (.il 1))))), .ask (IB (.iv 0) (.vv 4)), .ask (IB (.iv 0) (.vv 4)), .ask (FT (.add (.iv 0) (.il 1)))]) := by kernel_rfl
theorem b : aW prog 48 = some s0 := by kernel_rfl
end forward
end X
namespace X
open Go Go.a9 Go.Sym
namespace backward
abbrev f : Nat := 49
noncomputable def K : dj := ⟨prog, pl, [(81, 29)], [83], []⟩
noncomputable def e0 : SV := .int .i64 (.ab (.get (.get (.vv 0) (.il 0)) (.il 0)))
noncomputable def e1 : E := .get (.get (.vv 0) (.il 0)) (.il 1)
noncomputable def e2 : E := .get (.get (.vv 0) (.il 0)) (.il 2)
noncomputable def e3 : E := .get (.get (.vv 0) (.il 0)) (.il 3)
noncomputable def e4 : SV := .func 84 [] [(.addr 0 0)]
noncomputable def e5 : SV := .agg [e0, (.pure 3 e1 (q 45 0)), (.pure 27 e2 (q 46 0)), (.pure 27 e3 (q 47 0)), (.pure 3 (.get (.vv 0) (.il 1)) (q 48 0))]
noncomputable def s0 : au := ⟨⟨49, 6, (l (.agg [e0, (.pure 3 e1 (q 0 1)), (.pure 27 e2 (q 0 2)), (.pure 27 e3 (q 0 3)), (.pure 3 (.get (.vv 0) (.il 1)) (q 0 4))])), [.code (C 49 [])], [], .run, false, none⟩, [], ⟨0, 1, 1, z⟩⟩
noncomputable def s1 : au := ⟨⟨140, 18, (n (l (.aF 8)) z z (l (.int .i64 (.iv 0)))), [.code (C 140 [1, 1, 0, 0]), .inLoop (C 140 [1, 1, 0, 0]), .inBlock 0], [], .run, false, none⟩, [⟨98, 10, (m (.aF 8) (l (.addr 2 0)) (m (.addr 1 0) (l (.func 140 [] [])) z z z) (n (l (.agg [e0, (.pure 3 e1 (q 9 0)), (.pure 27 e2 (q 10 0)), (.pure 27 e3 (q 11 0)), (.pure 3 (.get (.vv 0) (.il 1)) (q 12 0))])) z z z) (m (.int .i64 (.il 1)) (l (.aF 8)) z z z)), [.cU (O 98 []) [(5, [])]], [], .run, false, none⟩, ⟨81, 44, (n (n (l (.addr 3 0)) z z z) z (m (.addr 1 0) (l (.addr 5 0)) z z z) (n (l (.addr 6 0)) z z z)), [.inRangeFunc 8, .inBlock 0, .code (C 81 [1, 1, 1, 1])], [⟨.collected 7, []⟩], .run, false, none⟩, ⟨49, 6, (n z z (l (.agg [e0, (.pure 3 e1 (q 13 0)), (.pure 27 e2 (q 14 0)), (.pure 27 e3 (q 15 0)), (.pure 3 (.get (.vv 0) (.il 1)) (q 16 0))])) (l e4)), [R 49 [1, 0] 2, .code .ret], [], .run, false, none⟩], ⟨10, 18, 3, (m (.cells [e0, (.pure 3 e1 (q 5 0)), (.pure 27 e2 (q 6 0)), (.pure 27 e3 (q 7 0)), (.pure 3 (.get (.vv 0) (.il 1)) (q 8 0))]) (m (.cells [e0, (.pure 3 e1 (q 1 0)), (.pure 27 e2 (q 2 0)), (.pure 27 e3 (q 3 0)), (.pure 3 (.get (.vv 0) (.il 1)) (q 4 0))]) (l (.cells [(.view 4)])) z z z) (m (.cells [(.int .i64 (.il 1))]) (l (.cells [(.pure 3 (.vv 1) (q 17 0))])) z z z) (m (.cells [e4]) (l (.deferred (some []))) z z z) (m (.arr 27 (.vv 2) 0) (l (.loop ⟨.ready, none, 81, 44, (n (n (l (.addr 3 0)) z z z) z (m (.addr 1 0) (l (.addr 5 0)) z z z) (n (l (.addr 6 0)) z z z)), PA 81 [1, 1, 1, 0, 1, 0], (C 81 [1, 1, 1, 0, 1, 0, 0]), (C 81 [1, 1, 1, 0, 1, 0, 1]), 7⟩)) z z z))⟩⟩
noncomputable def s2 : au := ⟨⟨81, 44, (n (n (m (.addr 3 0) (l (.int .i64 (.il 0))) z z z) (l (.int .i64 (.iv 0))) z z) z (n (l (.addr 5 0)) z z z) (n (l (.addr 6 0)) z z (l (.int .i64 (.len e1))))), [.code (C 81 [1, 1, 1, 0, 1, 0, 1, 0, 0, 1, 0, 0]), .inLoop (C 81 [1, 1, 1, 0, 1, 0, 1, 0, 0, 1, 0, 0]), .inBlock 2, .code (C 81 [1, 1, 1, 0, 1, 0, 1, 0, 1]), .inBlock 1], [], .run, false, (some 8)⟩, [⟨140, 18, (n (m (.aF 8) z z (l (.int .i64 (.iv 0))) z) z (n z (l (.bool (.bl true))) z z) (m (.int .i64 (.iv 0)) z (l (.aF 8)) z z)), [R 140 [1, 1, 0, 0, 0, 0] 5, .code (C 140 [1, 1, 0, 0, 0, 1]), .code (C 140 [1, 1, 0, 0, 1]), .inLoop (C 140 [1, 1, 0, 0]), .inBlock 0], [], .run, false, none⟩, ⟨98, 10, (m (.aF 8) (l (.addr 2 0)) (m (.addr 1 0) (l (.func 140 [] [])) z z z) (n (l (.agg [e0, (.pure 3 e1 (q 25 0)), (.pure 27 e2 (q 26 0)), (.pure 27 e3 (q 27 0)), (.pure 3 (.get (.vv 0) (.il 1)) (q 28 0))])) z z z) (m (.int .i64 (.il 1)) (l (.aF 8)) z z z)), [.cU (O 98 []) [(5, [])]], [], .run, false, none⟩, ⟨81, 44, (n (n (l (.addr 3 0)) z z z) z (m (.addr 1 0) (l (.addr 5 0)) z z z) (n (l (.addr 6 0)) z z z)), [.inRangeFunc 8, .inBlock 0, .code (C 81 [1, 1, 1, 1])], [⟨.collected 7, []⟩], .run, false, none⟩, ⟨49, 6, (n z z (l (.agg [e0, (.pure 3 e1 (q 29 0)), (.pure 27 e2 (q 30 0)), (.pure 27 e3 (q 31 0)), (.pure 3 (.get (.vv 0) (.il 1)) (q 32 0))])) (l e4)), [R 49 [1, 0] 2, .code .ret], [], .run, false, none⟩], ⟨10, 34, 3, (m (.cells [e0, (.pure 3 e1 (q 17 0)), (.pure 27 e2 (q 18 0)), (.pure 27 e3 (q 19 0)), (.pure 3 (.get (.vv 0) (.il 1)) (q 20 0))]) (m (.cells [e0, (.pure 3 e1 (q 21 0)), (.pure 27 e2 (q 22 0)), (.pure 27 e3 (q 23 0)), (.pure 3 (.get (.vv 0) (.il 1)) (q 24 0))]) (l (.cells [(.view 4)])) z z z) (m (.cells [(.int .i64 (.il 1))]) (l (.cells [(.pure 3 (.vv 2) (q 33 0))])) z z z) (m (.cells [e4]) (l (.deferred (some []))) z z z) (m (.arr 27 (.vv 1) 0) (l (.loop ⟨.busy, none, 81, 44, (n (n (l (.addr 3 0)) z z z) z (m (.addr 1 0) (l (.addr 5 0)) z z z) (n (l (.addr 6 0)) z z z)), PA 81 [1, 1, 1, 0, 1, 0], (C 81 [1, 1, 1, 0, 1, 0, 0]), (C 81 [1, 1, 1, 0, 1, 0, 1]), 7⟩)) z z z))⟩⟩
noncomputable def s3 : au := ⟨⟨81, 44, (n (n (m (.addr 3 0) (l (.int .i64 (.iv 0))) z z z) (l (.int .i64 (.iv 1))) z z) z (n (l (.addr 5 0)) z z z) (n (l (.addr 6 0)) z z (l (.int .i64 (.len e1))))), [.code (C 81 [1, 1, 1, 0, 1, 0, 1, 0, 0, 1, 0, 0]), .inLoop (C 81 [1, 1, 1, 0, 1, 0, 1, 0, 0, 1, 0, 0]), .inBlock 2, .code (C 81 [1, 1, 1, 0, 1, 0, 1, 0, 1]), .inBlock 1], [], .run, false, (some 8)⟩, [⟨140, 18, (n (m (.aF 8) z z (l (.int .i64 (.iv 1))) z) z (n z (l (.bool (.bl true))) z z) (m (.int .i64 (.iv 1)) z (l (.aF 8)) z z)), [R 140 [1, 1, 0, 0, 0, 0] 5, .code (C 140 [1, 1, 0, 0, 0, 1]), .code (C 140 [1, 1, 0, 0, 1]), .inLoop (C 140 [1, 1, 0, 0]), .inBlock 0], [], .run, false, none⟩, ⟨98, 10, (m (.aF 8) (l (.addr 2 0)) (m (.addr 1 0) (l (.func 140 [] [])) z z z) (n (l (.agg [e0, (.pure 3 e1 (q 41 0)), (.pure 27 e2 (q 42 0)), (.pure 27 e3 (q 43 0)), (.pure 3 (.get (.vv 0) (.il 1)) (q 44 0))])) z z z) (m (.int .i64 (.il 1)) (l (.aF 8)) z z z)), [.cU (O 98 []) [(5, [])]], [], .run, false, none⟩, ⟨81, 44, (n (n (l (.addr 3 0)) z z z) z (m (.addr 1 0) (l (.addr 5 0)) z z z) (n (l (.addr 6 0)) z z z)), [.inRangeFunc 8, .inBlock 0, .code (C 81 [1, 1, 1, 1])], [⟨.collected 7, []⟩], .run, false, none⟩, ⟨49, 6, (n z z (l e5) (l e4)), [R 49 [1, 0] 2, .code .ret], [], .run, false, none⟩], ⟨14, 50, 4, (m (.cells [e0, (.pure 3 e1 (q 33 0)), (.pure 27 e2 (q 34 0)), (.pure 27 e3 (q 35 0)), (.pure 3 (.get (.vv 0) (.il 1)) (q 36 0))]) (m (.cells [e0, (.pure 3 e1 (q 37 0)), (.pure 27 e2 (q 38 0)), (.pure 27 e3 (q 39 0)), (.pure 3 (.get (.vv 0) (.il 1)) (q 40 0))]) (l (.cells [(.view 4)])) z (l (.arr 3 (.vv 1) 0)) z) (m (.cells [(.int .i64 (.il 1))]) (l (.cells [(.pure 3 (.vv 3) (q 49 0))])) z z z) (m (.cells [e4]) (l (.deferred (some []))) z z z) (m (.dW 27 3 (.vv 2) (.iv 1) 13) (l (.loop ⟨.busy, none, 81, 44, (n (n (l (.addr 3 0)) z z z) z (m (.addr 1 0) (l (.addr 5 0)) z z z) (n (l (.addr 6 0)) z z z)), PA 81 [1, 1, 1, 0, 1, 0], (C 81 [1, 1, 1, 0, 1, 0, 0]), (C 81 [1, 1, 1, 0, 1, 0, 1]), 7⟩)) z z z))⟩⟩
noncomputable def s4 : au := ⟨⟨84, 41, (m (.int .i64 (.iv 1)) (m (.int .i64 (.iv 2)) z z (l (.pure 3 (.vv 3) (q 38 0))) z) (n z z (l (.int .i64 (.iv 3))) z) (m (.addr 0 0) z z (l (.int .i64 (.iv 5))) z) (n (l (.int .i64 (.iv 4))) z z z)), [.code (C 84 [1, 1, 1, 0, 1, 0, 0]), .inLoop (C 84 [1, 1, 1, 0, 1, 0, 0]), .inBlock 0, .code (C 84 [1, 1, 1, 1])], [], .run, false, none⟩, [⟨81, 44, (n (n (m (.addr 3 0) (l (.int .i64 (.iv 2))) z z z) (m (.int .i64 (.iv 1)) (l (.int .i64 (.iv 1))) z z z) (n (l (.view 10)) z z z) (n (l (.pure 3 (.vv 3) (q 40 0))) z z z)) (n z (m (.int .i64 (.iv 2)) (l (.view 4)) z z z) (n (l e4) z z z) z) (n (l (.addr 5 0)) (n (l (.int .i64 (.iv 1))) z z z) (n (l (.int .i64 (.iv 1))) z z z) z) (n (m (.addr 6 0) (l (.view 4)) z z z) (n (l (.bI 4 (.iv 1) 0)) z z z) (n (l (.int .i64 (.iv 2))) z z z) (l (.int .i64 (.len e1))))), [.cU (O 81 [1, 1, 1, 0, 1, 0, 1, 0, 0, 1, 0, 0, 1, 1, 0, 0, 1]) [(10, [0, 2, 5]), (11, []), (12, [0]), (13, []), (14, [])], .inBlock 3, .code (C 81 [1, 1, 1, 0, 1, 0, 1, 0, 0, 1, 0, 0, 1, 1, 1]), .inLoop (C 81 [1, 1, 1, 0, 1, 0, 1, 0, 0, 1, 0, 0]), .inBlock 2, .code (C 81 [1, 1, 1, 0, 1, 0, 1, 0, 1]), .inBlock 1], [], .run, false, (some 8)⟩, ⟨140, 18, (n (m (.aF 8) z z (l (.int .i64 (.iv 1))) z) z (n z (l (.bool (.bl true))) z z) (m (.int .i64 (.iv 1)) z (l (.aF 8)) z z)), [R 140 [1, 1, 0, 0, 0, 0] 5, .code (C 140 [1, 1, 0, 0, 0, 1]), .code (C 140 [1, 1, 0, 0, 1]), .inLoop (C 140 [1, 1, 0, 0]), .inBlock 0], [], .run, false, none⟩, ⟨98, 10, (m (.aF 8) (l (.addr 2 0)) (m (.addr 1 0) (l (.func 140 [] [])) z z z) (n (l e5) z z z) (m (.int .i64 (.il 1)) (l (.aF 8)) z z z)), [.cU (O 98 []) [(5, [])]], [], .run, false, none⟩, ⟨81, 44, (n (n (l (.addr 3 0)) z z z) z (m (.addr 1 0) (l (.addr 5 0)) z z z) (n (l (.addr 6 0)) z z z)), [.inRangeFunc 8, .inBlock 0, .code (C 81 [1, 1, 1, 1])], [⟨.collected 7, []⟩], .run, false, none⟩, ⟨49, 6, (n z z (l (.agg [e0, (.pure 3 e1 (q 49 0)), (.pure 27 e2 (q 50 0)), (.pure 27 e3 (q 51 0)), (.pure 3 (.get (.vv 0) (.il 1)) (q 52 0))])) (l e4)), [R 49 [1, 0] 2, .code .ret], [], .run, false, none⟩], ⟨12, 53, 6, (m (.cells [e0, (.pure 3 e1 (q 34 0)), (.pure 27 e2 (q 35 0)), (.pure 27 e3 (q 36 0)), (.pure 3 (.get (.vv 0) (.il 1)) (q 37 0))]) (m (.cells [e0, (.pure 3 e1 (q 41 0)), (.pure 27 e2 (q 42 0)), (.pure 27 e3 (q 43 0)), (.pure 3 (.get (.vv 0) (.il 1)) (q 44 0))]) (l (.cells [(.view 4)])) z z z) (m (.cells [(.int .i64 (.il 1))]) (l (.cells [(.pure 3 (.vv 3) (q 39 0))])) (l (.arr 3 (.vv 5) 0)) z z) (m (.cells [e4]) (l (.deferred (some []))) z z z) (m (.dW 27 3 (.vv 4) (.iv 1) 10) (l (.loop ⟨.busy, none, 81, 44, (n (n (l (.addr 3 0)) z z z) z (m (.addr 1 0) (l (.addr 5 0)) z z z) (n (l (.addr 6 0)) z z z)), PA 81 [1, 1, 1, 0, 1, 0], (C 81 [1, 1, 1, 0, 1, 0, 0]), (C 81 [1, 1, 1, 0, 1, 0, 1]), 7⟩)) z z z))⟩⟩
theorem p0 : af K 58 [] s0 s1 [] ⟨[(.sub (.len (.get (.vv 0) (.il 1))) (.il 1))], [], [(.vv 0), .nil, (.rep (.len (.get (.vv 0) (.il 1))) .nil)], [(q 0 0), (q 0 1), (q 0 2), (q 0 3), (q 0 4), (q 0 1), (q 0 2), (q 0 3), (q 0 4), (q 0 1), (q 0 2), (q 0 3), (q 0 4), (q 0 1), (q 0 2), (q 0 3), (q 0 4), .nil]⟩ [(8, (some 8)), (1, (some 1)), (3, (some 3)), (0, (some 0)), (5, (some 5)), (4, (some 4)), (6, (some 6)), (7, (some 7)), (2, (some 2))] = some (s1, [.ask (.and (.le (.il 0) (.len (.get (.vv 0) (.il 1)))) (.le (.len (.get (.vv 0) (.il 1))) (.il 5864062014805))), .ask (FT (.sub (.len (.get (.vv 0) (.il 1))) (.il 1)))]) := by kernel_rfl
theorem p1 : af K 25 [true] s1 s2 [] ⟨[(.iv 0)], [], [(.vv 0), (.vv 2), (.vv 1)], (Z [0, 1, 2, 3, 4, 5, 6, 7, 8, 9, 10, 11, 12, 13, 14, 15, 16, 5, 6, 7, 8, 1, 2, 3, 4, 9, 10, 11, 12, 13, 14, 15, 16, 17])⟩ [(3, (some 3)), (0, (some 0)), (5, (some 5)), (4, (some 4)), (6, (some 6)), (8, (some 8)), (1, (some 1)), (7, (some 7)), (2, (some 2))] = some (s2, [.ask (.le (.il 0) (.iv 0))]) := by kernel_rfl
theorem p2 : last K 49 31 [false] s1 = some ((.vv 2), [.ask (.not (.le (.il 0) (.iv 0)))]) := by kernel_rfl
theorem p3 : af K 54 [true, true] s2 s3 [] ⟨[(.il 1), (.iv 0)], [], [(.vv 0), (.snoc .nil (.aN (.il 1))), (.vv 1), (.vv 2)], (Z [0, 1, 2, 3, 4, 5, 6, 7, 8, 9, 10, 11, 12, 13, 14, 15, 16, 17, 18, 19, 20, 21, 22, 23, 24, 25, 26, 27, 28, 29, 30, 31, 32, 17, 18, 19, 20, 21, 22, 23, 24, 25, 26, 27, 28, 29, 30, 31, 32, 33])⟩ [(3, (some 3)), (0, (some 0)), (5, (some 5)), (4, (some 4)), (13, (some 13)), (6, (some 6)), (8, (some 8)), (1, (some 1)), (7, (some 7)), (2, (some 2))] = some (s3, [.ask (.lt (.il 0) (.len (.get (.get (.vv 0) (.il 0)) (.il 1)))), .ask (IB (.iv 0) (.vv 1)), .ask (.isNil (.get (.vv 1) (.iv 0))), .ask (IB (.iv 0) (.vv 1)), .ask (IB (.iv 0) (.vv 1)), .ask (.isNil (.vv 2)), .ask (IB (.iv 0) (.vv 1)), .ask (IB (.iv 0) (.vv 1)), .ask (IB (.iv 0) (.vv 1))]) := by kernel_rfl
theorem p4 : af K 51 [true, false] s2 s4 [] ⟨[(.iv 0), (.iv 0), (.il 0), (.len (.vv 2)), (.il 0), (.il 0)], [], [(.vv 0), (.vv 1), (.vv 2), (.vv 2), (.vv 1), .nil], (Z [0, 1, 2, 3, 4, 5, 6, 7, 8, 9, 10, 11, 12, 13, 14, 15, 16, 17, 18, 19, 20, 21, 22, 23, 24, 25, 26, 27, 28, 29, 30, 31, 32, 33, 17, 18, 19, 20, 33, 33, 33, 21, 22, 23, 24, 25, 26, 27, 28, 29, 30, 31, 32])⟩ [(0, (some 0)), (3, (some 3)), (5, (some 5)), (4, (some 4)), (10, (some 10)), (6, (some 6)), (8, (some 8)), (1, (some 1)), (7, (some 7)), (2, (some 2))] = some (s4, [.ask (.lt (.il 0) (.len (.get (.get (.vv 0) (.il 0)) (.il 1)))), .ask (IB (.iv 0) (.vv 1)), .ask (.isNil (.get (.vv 1) (.iv 0))), .ask (IB (.iv 0) (.vv 1)), .ask (IB (.iv 0) (.vv 1)), .ask (.not (.isNil (.vv 2)))]) := by kernel_rfl
theorem p6 : af K 54 [true, true] s3 s3 [] ⟨[(.add (.iv 0) (.il 1)), (.iv 1)], [], [(.vv 0), (.snoc (.vv 1) (.aN (.il 1))), (.vv 2), (.vv 3)], (Z [0, 1, 2, 3, 4, 5, 6, 7, 8, 9, 10, 11, 12, 13, 14, 15, 16, 17, 18, 19, 20, 21, 22, 23, 24, 25, 26, 27, 28, 29, 30, 31, 32, 33, 34, 35, 36, 37, 38, 39, 40, 41, 42, 43, 44, 45, 46, 47, 48, 49])⟩ [(3, (some 3)), (0, (some 0)), (5, (some 5)), (4, (some 4)), (13, (some 15)), (6, (some 6)), (8, (some 8)), (1, (some 1)), (7, (some 7)), (2, (some 2))] = some (s3, [.ask (.lt (.iv 0) (.len (.get (.get (.vv 0) (.il 0)) (.il 1)))), .ask (IB (.iv 1) (.vv 2)), .ask (IB (.iv 1) (.vv 2)), .ask (.isNil (.vv 3)), .ask (IB (.iv 1) (.vv 2)), .ask (.le (.add (.len (.vv 1)) (.il 1)) (.il 8796093021696)), .ask (IB (.iv 1) (.vv 2)), .ask (IB (.iv 1) (.vv 2)), .ask (FT (.add (.iv 0) (.il 1)))]) := by kernel_rfl
theorem p7 : af K 51 [true, false] s3 s4 [] ⟨[(.iv 0), (.iv 1), (.iv 0), (.len (.vv 3)), (.il 0), (.il 0)], [], [(.vv 0), (.vv 1), (.vv 2), (.vv 3), (.vv 2), (.vv 1)], (Z [0, 1, 2, 3, 4, 5, 6, 7, 8, 9, 10, 11, 12, 13, 14, 15, 16, 17, 18, 19, 20, 21, 22, 23, 24, 25, 26, 27, 28, 29, 30, 31, 32, 33, 33, 34, 35, 36, 49, 49, 49, 37, 38, 39, 40, 41, 42, 43, 44, 45, 46, 47, 48])⟩ [(0, (some 0)), (3, (some 3)), (5, (some 5)), (4, (some 4)), (10, (some 13)), (6, (some 6)), (8, (some 8)), (1, (some 1)), (7, (some 7)), (2, (some 2))] = some (s4, [.ask (.lt (.iv 0) (.len (.get (.get (.vv 0) (.il 0)) (.il 1)))), .ask (IB (.iv 1) (.vv 2)), .ask (IB (.iv 1) (.vv 2)), .ask (.not (.isNil (.vv 3)))]) := by kernel_rfl
theorem p8 : af K 30 [false] s3 s1 [] ⟨[(.sub (.iv 1) (.il 1))], [], [(.vv 0), (.get (.set (.vv 2) (.iv 1) (.vv 1)) (.iv 1)), (.set (.vv 2) (.iv 1) (.vv 1))], [(q 0 0), (q 37 0), (q 38 0), (q 39 0), (q 40 0), (q 33 0), (q 34 0), (q 35 0), (q 36 0), (q 41 0), (q 42 0), (q 43 0), (q 44 0), (q 45 0), (q 46 0), (q 47 0), (q 48 0), (.D8 4 14 (.iv 1) 1 0)]⟩ [(8, (some 8)), (1, (some 1)), (3, (some 3)), (0, (some 0)), (5, (some 5)), (4, (some 4)), (6, (some 6)), (7, (some 7)), (2, (some 2))] = some (s1, [.ask (.not (.lt (.iv 0) (.len (.get (.get (.vv 0) (.il 0)) (.il 1))))), .ask (IB (.iv 1) (.vv 2)), .ask (IB (.iv 1) (.vv 2)), .ask (FT (.sub (.iv 1) (.il 1)))]) := by kernel_rfl
theorem p9 : af K 45 [true] s4 s4 [] ⟨[(.iv 0), (.iv 1), (.iv 2), (.iv 3), (.add (.iv 4) (.mul (.mul (.ab (.get (.get (.get (.get (.vv 0) (.il 0)) (.il 2)) (.iv 2)) (.iv 5))) (.ab (.vv 6))) (.ab (.get (.vv 3) (.iv 5))))), (.add (.iv 5) (.il 1))], [], [(.vv 0), (.vv 1), (.vv 2), (.vv 3), (.vv 4), (.vv 5)], (Z [0, 1, 2, 3, 4, 5, 6, 7, 8, 9, 10, 11, 12, 13, 14, 15, 16, 17, 18, 19, 20, 21, 22, 23, 24, 25, 26, 27, 28, 29, 30, 31, 32, 33, 34, 35, 36, 37, 38, 39, 40, 41, 42, 43, 44, 45, 46, 47, 48, 49, 50, 51, 52])⟩ [(0, (some 0)), (3, (some 3)), (5, (some 5)), (4, (some 4)), (10, (some 10)), (6, (some 6)), (8, (some 8)), (1, (some 1)), (7, (some 7)), (2, (some 2))] = some (s4, [.ask (.lt (.iv 5) (.iv 3)), .ask (IB (.iv 5) (.vv 3)), .ask (IB (.iv 2) (.get (.get (.vv 0) (.il 0)) (.il 2))), .ask (IB (.iv 5) (.get (.get (.get (.vv 0) (.il 0)) (.il 2)) (.iv 2))), .ask (FT (.add (.iv 1) (.il 1))), .call 83 [(.snoc (.snoc .emp (HM (.get (.vv 0) (.il 0)))) (.get (.vv 0) (.il 1))), (.aN (.add (.iv 1) (.il 1))), (.aN (.iv 5))], .ask (FT (.mul (.ab (.get (.get (.get (.get (.vv 0) (.il 0)) (.il 2)) (.iv 2)) (.iv 5))) (.ab (.vv 6)))), .ask (FT (.mul (.mul (.ab (.get (.get (.get (.get (.vv 0) (.il 0)) (.il 2)) (.iv 2)) (.iv 5))) (.ab (.vv 6))) (.ab (.get (.vv 3) (.iv 5))))), .ask (FT (.add (.iv 4) (.mul (.mul (.ab (.get (.get (.get (.get (.vv 0) (.il 0)) (.il 2)) (.iv 2)) (.iv 5))) (.ab (.vv 6))) (.ab (.get (.vv 3) (.iv 5)))))), .ask (FT (.add (.iv 5) (.il 1)))]) := by kernel_rfl
theorem CI : af K 25 [false] s4 s3 [] ⟨[(.add (.iv 2) (.il 1)), (.iv 1)], [], [(.vv 0), (.snoc (.vv 5) (.aN (.iv 4))), (.vv 4), (.vv 3)], (Z [0, 1, 2, 3, 4, 5, 6, 7, 8, 9, 10, 11, 12, 13, 14, 15, 16, 17, 18, 19, 20, 21, 22, 23, 24, 25, 26, 27, 28, 29, 30, 31, 32, 34, 35, 36, 37, 41, 42, 43, 44, 45, 46, 47, 48, 49, 50, 51, 52, 39])⟩ [(3, (some 3)), (0, (some 0)), (5, (some 5)), (4, (some 4)), (13, (some 13)), (6, (some 6)), (8, (some 8)), (1, (some 1)), (7, (some 7)), (2, (some 2))] = some (s3, [.ask (.not (.lt (.iv 5) (.iv 3))), .ask (IB (.iv 1) (.vv 4)), .ask (.le (.add (.len (.vv 5)) (.il 1)) (.il 8796093021696)), .ask (IB (.iv 1) (.vv 4)), .ask (IB (.iv 1) (.vv 4)), .ask (FT (.add (.iv 2) (.il 1)))]) := by kernel_rfl
theorem b : aW prog 49 = some s0 := by kernel_rfl
end backward
end X
namespace X
open Go Go.a9 Go.Sym
namespace sT
abbrev f : Nat := 15
noncomputable def K : dj := ⟨prog, pl, [], [47, 48], []⟩
noncomputable def s0 : au := ⟨⟨15, 19, (m (.agg [(.int .i64 (.ab (.get (.vv 0) (.il 0)))), (.pure 3 (.get (.vv 0) (.il 1)) (q 0 1)), (.pure 27 (.get (.vv 0) (.il 2)) (q 0 2)), (.pure 27 (.get (.vv 0) (.il 3)) (q 0 3))]) (l (.pure 3 (.vv 1) (q 1 0))) z z z), [.code (C 15 [])], [], .run, false, none⟩, [], ⟨0, 2, 2, z⟩⟩
theorem b : aW prog 15 = some s0 := by kernel_rfl
end sT
end X
namespace X
open Go Go.a9 Go.Sym
namespace pD
abbrev f : Nat := 16
noncomputable def K : dj := ⟨prog, pl, [], [47, 49], []⟩
noncomputable def s0 : au := ⟨⟨16, 19, (m (.agg [(.int .i64 (.ab (.get (.vv 0) (.il 0)))), (.pure 3 (.get (.vv 0) (.il 1)) (q 0 1)), (.pure 27 (.get (.vv 0) (.il 2)) (q 0 2)), (.pure 27 (.get (.vv 0) (.il 3)) (q 0 3))]) (l (.pure 3 (.vv 1) (q 1 0))) z z z), [.code (C 16 [])], [], .run, false, none⟩, [], ⟨0, 2, 2, z⟩⟩
theorem b : aW prog 16 = some s0 := by kernel_rfl
end pD
end X
namespace X
open Go Go.a9 Go.Sym
namespace iQ
abbrev f : Nat := 67
noncomputable def K : dj := ⟨prog, pl, [], [], []⟩
noncomputable def s0 : au := ⟨⟨67, 17, (l (.pure 3 (.vv 0) (q 0 0))), [.code (C 67 [])], [], .run, false, none⟩, [], ⟨0, 1, 1, z⟩⟩
noncomputable def s1 : au := ⟨⟨67, 17, (n z (n (l (.pure 3 (.vv 0) (q 1 0))) z z z) (m (.int .i64 (.iv 0)) (l (.int .i64 (.len (.vv 0)))) z z z) (n (l (.int .i64 (.iv 1))) z z z)), [.code (C 67 [1, 1, 0, 1, 0, 0]), .inLoop (C 67 [1, 1, 0, 1, 0, 0]), .inBlock 0, .code (C 67 [1, 1, 1])], [], .run, false, none⟩, [], ⟨0, 2, 1, z⟩⟩
theorem p0 : af K 17 [] s0 s1 [] ⟨[(.il 0), (.il 0)], [], [(.vv 0)], (Z [0, 0])⟩ [] = some (s1, []) := by kernel_rfl
theorem p1 : af K 27 [true] s1 s1 [] ⟨[(.add (.iv 0) (.ab (.get (.vv 0) (.iv 1)))), (.add (.iv 1) (.il 1))], [], [(.vv 0)], (Z [0, 1])⟩ [] = some (s1, [.ask (.lt (.iv 1) (.len (.vv 0))), .ask (IB (.iv 1) (.vv 0)), .ask (FT (.add (.iv 0) (.ab (.get (.vv 0) (.iv 1))))), .ask (FT (.add (.iv 1) (.il 1)))]) := by kernel_rfl
theorem p2 : last K 67 13 [false] s1 = some ((.aN (.iv 0)), [.ask (.not (.lt (.iv 1) (.len (.vv 0))))]) := by kernel_rfl
theorem b : aW prog 67 = some s0 := by kernel_rfl
end iQ
end X
namespace X
open Go Go.a9 Go.Sym
namespace uL
abbrev f : Nat := 58
noncomputable def K : dj := ⟨prog, pl, [], [], []⟩
noncomputable def s0 : au := ⟨⟨58, 9, (l (.pure 27 (.vv 0) (q 0 0))), [.code (C 58 [])], [], .run, false, none⟩, [], ⟨0, 1, 1, z⟩⟩
theorem p0 : last K 58 15 [] s0 = some ((.get (.vv 0) (.sub (.len (.vv 0)) (.il 1))), [.ask (FT (.sub (.len (.vv 0)) (.il 1))), .ask (IB (.sub (.len (.vv 0)) (.il 1)) (.vv 0))]) := by kernel_rfl
theorem b : aW prog 58 = some s0 := by kernel_rfl
end uL
end X
namespace X
open Go Go.a9 Go.Sym
namespace possible
abbrev f : Nat := 57
noncomputable def K : dj := ⟨prog, pl, [], [48, 67, 58], []⟩
noncomputable def s0 : au := ⟨⟨57, 12, (l (.agg [(.int .i64 (.ab (.get (.get (.vv 0) (.il 0)) (.il 0)))), (.pure 3 (.get (.get (.vv 0) (.il 0)) (.il 1)) (q 0 1)), (.pure 27 (.get (.get (.vv 0) (.il 0)) (.il 2)) (q 0 2)), (.pure 27 (.get (.get (.vv 0) (.il 0)) (.il 3)) (q 0 3)), (.pure 3 (.get (.vv 0) (.il 1)) (q 0 4))])), [.code (C 57 [])], [], .run, false, none⟩, [], ⟨0, 1, 1, z⟩⟩
theorem p0 : last K 57 27 [true] s0 = some ((.snoc (.snoc .emp .nil) (.aN (.il 7))), [.call 48 [(.snoc (.snoc .emp (HM (.get (.vv 0) (.il 0)))) (.get (.vv 0) (.il 1)))], .call 58 [(.vv 1)], .call 67 [(.vv 2)], .ask (.eq (.ab (.vv 3)) (.il 0))]) := by kernel_rfl
theorem p1 : last K 57 29 [false] s0 = some ((.snoc (.snoc .emp (.vv 1)) (.aN (.il 0))), [.call 48 [(.snoc (.snoc .emp (HM (.get (.vv 0) (.il 0)))) (.get (.vv 0) (.il 1)))], .call 58 [(.vv 1)], .call 67 [(.vv 2)], .ask (.not (.eq (.ab (.vv 3)) (.il 0)))]) := by kernel_rfl
theorem b : aW prog 57 = some s0 := by kernel_rfl
end possible
end X
namespace X
open Go Go.a9 Go.Sym
namespace iR
abbrev f : Nat := 25
noncomputable def K : dj := ⟨prog, pl, [], [47, 48, 67, 58, 66], []⟩
noncomputable def e0 : E := .get (.get (.vv 2) (.il 0)) (.il 0)
noncomputable def s0 : au := ⟨⟨25, 39, (m (.agg [(.int .i64 (.ab (.get (.vv 0) (.il 0)))), (.pure 3 (.get (.vv 0) (.il 1)) (q 0 1)), (.pure 27 (.get (.vv 0) (.il 2)) (q 0 2)), (.pure 27 (.get (.vv 0) (.il 3)) (q 0 3))]) (l (.pure 3 (.vv 1) (q 1 0))) z z z), [.code (C 25 [])], [], .run, false, none⟩, [], ⟨0, 2, 2, z⟩⟩
noncomputable def s1 : au := ⟨⟨65, 17, (n (l (.aF 5)) (l (.addr 6 0)) z (l (.int .i64 (.iv 1)))), [.code (C 65 [1, 1, 0, 0]), .inLoop (C 65 [1, 1, 0, 0]), .inBlock 0], [], .run, false, none⟩, [⟨25, 39, (n z (n (l (.addr 2 0)) z z z) z (m (.addr 1 0) (l (.addr 3 0)) z z z)), [.inRangeFunc 5, .inBlock 0, .code (C 25 [1, 1, 1, 1, 1])], [⟨.collected 4, []⟩], .run, false, none⟩], ⟨7, 11, 3, (n (m (.cells [(.int .i64 (.il 0)), (.int .i64 (.il 0))]) (l (.loop ⟨.ready, none, 25, 39, (n z (n (l (.addr 2 0)) z z z) z (n (l (.addr 3 0)) z z z)), PA 25 [1, 1, 1, 1, 0, 1, 0], .skip, (C 25 [1, 1, 1, 1, 0, 1, 0, 1]), 4⟩)) z z z) (m (.cells [(.int .i64 (.ab (.get e0 (.il 0)))), (.pure 3 (.get e0 (.il 1)) (q 3 0)), (.pure 27 (.get e0 (.il 2)) (q 4 0)), (.pure 27 (.get e0 (.il 3)) (q 5 0)), (.pure 3 (.get (.get (.vv 2) (.il 0)) (.il 1)) (q 6 0))]) (l (.cells [(.int .i64 (.ab (.get e0 (.il 0)))), (.pure 3 (.get e0 (.il 1)) (q 7 0)), (.pure 27 (.get e0 (.il 2)) (q 8 0)), (.pure 27 (.get e0 (.il 3)) (q 9 0)), (.pure 3 (.get (.get (.vv 2) (.il 0)) (.il 1)) (q 10 0))])) z z z) (l (.cells [(.int .i64 (.iv 0))])) (l (.deferred (some []))))⟩⟩
theorem p0 : last K 25 33 [true] s0 = some ((.snoc (.snoc .emp (.snoc (.snoc .emp (.aN (.il 0))) (.aN (.il 0)))) (.aN (.ab (.get (.vv 2) (.il 1))))), [.call 47 [(HM (.vv 0)), (.vv 1)], .ask (.not (.eq (.ab (.get (.vv 2) (.il 1))) (.il 0)))]) := by kernel_rfl
theorem p1 : af K 49 [false] s0 s1 [] ⟨[(.il 1), (.il 0)], [], [(.vv 0), (.vv 1), (.vv 2)], [(q 0 0), (q 1 0), (q 2 0), (q 2 1), (q 2 2), (q 2 3), (q 2 4), (q 2 1), (q 2 2), (q 2 3), (q 2 4)]⟩ [(5, (some 5)), (2, (some 2)), (3, (some 3)), (4, (some 4)), (6, (some 6)), (1, (some 1))] = some (s1, [.call 47 [(HM (.vv 0)), (.vv 1)], .ask (.not (.not (.eq (.ab (.get (.vv 2) (.il 1))) (.il 0))))]) := by kernel_rfl
theorem p2 : af K 43 [true] s1 s1 [] ⟨[(.mul (.iv 0) (.mul (.ab (.get (.get (.get (.vv 2) (.il 0)) (.il 0)) (.il 0))) (.ab (.get (.get (.get (.vv 2) (.il 0)) (.il 0)) (.il 0))))), (.add (.iv 1) (.il 1))], [], [(.vv 0), (.vv 1), (.vv 2)], (Z [0, 1, 2, 3, 4, 5, 6, 7, 8, 9, 10])⟩ [(5, (some 5)), (2, (some 2)), (3, (some 3)), (4, (some 4)), (6, (some 6)), (1, (some 1))] = some (s1, [.ask (.lt (.iv 1) (.len (.get (.get (.vv 2) (.il 0)) (.il 1)))), .ask (FT (.mul (.ab (.get (.get (.get (.vv 2) (.il 0)) (.il 0)) (.il 0))) (.ab (.get (.get (.get (.vv 2) (.il 0)) (.il 0)) (.il 0))))), .ask (FT (.mul (.iv 0) (.mul (.ab (.get (.get (.get (.vv 2) (.il 0)) (.il 0)) (.il 0))) (.ab (.get (.get (.get (.vv 2) (.il 0)) (.il 0)) (.il 0)))))), .ask (FT (.add (.iv 1) (.il 1)))]) := by kernel_rfl
theorem p3 : last K 25 35 [false] s1 = some ((.snoc (.snoc .emp (.snoc (.snoc .emp (.aN (.ab (.get (.get (.vv 6) (.il 0)) (.il 0))))) (.aN (.ab (.get (.get (.vv 6) (.il 0)) (.il 1)))))) (.aN (.ab (.get (.vv 6) (.il 1))))), [.ask (.not (.lt (.iv 1) (.len (.get (.get (.vv 2) (.il 0)) (.il 1))))), .call 48 [(.snoc (.snoc .emp (HM (.get (.get (.vv 2) (.il 0)) (.il 0)))) (.get (.get (.vv 2) (.il 0)) (.il 1)))], .call 58 [(.vv 3)], .call 67 [(.vv 4)], .call 66 [(.aN (.ab (.vv 5))), (.aN (.iv 0))]]) := by kernel_rfl
theorem b : aW prog 25 = some s0 := by kernel_rfl
end iR
end X
namespace X
open Go Go.a9 Go.Sym
namespace bE
abbrev f : Nat := 29
noncomputable def K : dj := ⟨prog, pl, [], [47, 57, 66], []⟩
noncomputable def e0 : E := .get (.get (.vv 2) (.il 0)) (.il 0)
noncomputable def s0 : au := ⟨⟨29, 40, (m (.agg [(.int .i64 (.ab (.get (.vv 0) (.il 0)))), (.pure 3 (.get (.vv 0) (.il 1)) (q 0 1)), (.pure 27 (.get (.vv 0) (.il 2)) (q 0 2)), (.pure 27 (.get (.vv 0) (.il 3)) (q 0 3))]) (l (.pure 3 (.vv 1) (q 1 0))) z z z), [.code (C 29 [])], [], .run, false, none⟩, [], ⟨0, 2, 2, z⟩⟩
noncomputable def s1 : au := ⟨⟨65, 17, (n (l (.aF 5)) (l (.addr 6 0)) z (l (.int .i64 (.iv 0)))), [.code (C 65 [1, 1, 0, 0]), .inLoop (C 65 [1, 1, 0, 0]), .inBlock 0], [], .run, false, none⟩, [⟨29, 40, (n (n z (l (.addr 3 0)) z z) z z (n (l (.addr 2 0)) z z z)), [.inRangeFunc 5, .inBlock 0, .code (C 29 [1, 1, 1, 1, 1, 1, 1])], [⟨.collected 4, []⟩], .run, false, none⟩], ⟨8, 9, 5, (n (n (l (.loop ⟨.ready, none, 29, 40, (n (n z (l (.addr 3 0)) z z) z z (n (l (.addr 2 0)) z z z)), PA 29 [1, 1, 1, 1, 1, 1, 0, 1, 0], (C 29 [1, 1, 1, 1, 1, 1, 0, 1, 0, 0]), (C 29 [1, 1, 1, 1, 1, 1, 0, 1, 0, 1]), 4⟩)) z z z) (m (.cells [(.pure 27 (.get (.vv 3) (.il 0)) (q 4 0))]) (l (.cells [(.int .i64 (.ab (.get e0 (.il 0)))), (.pure 3 (.get e0 (.il 1)) (q 5 0)), (.pure 27 (.get e0 (.il 2)) (q 6 0)), (.pure 27 (.get e0 (.il 3)) (q 7 0)), (.pure 3 (.get (.get (.vv 2) (.il 0)) (.il 1)) (q 8 0))])) z z z) (m (.cells [(.view 7)]) (l (.arr 46 (.vv 4) 0)) z z z) (l (.deferred (some []))))⟩⟩
noncomputable def s2 : au := ⟨⟨59, 45, (m (.pure 3 (.vv 4) (q 9 0)) (m (.func 60 [] []) (l (.int .i64 (.iv 0))) z (l (.pure 3 (.vv 4) (q 10 0))) z) (n z z (l (.int .i64 (.iv 2))) z) (n z z (l (.int .i64 (.iv 1))) z) z), [.code (C 59 [1, 1, 0, 1, 0, 0]), .inLoop (C 59 [1, 1, 0, 1, 0, 0]), .inBlock 0, .code (C 59 [1, 1, 1])], [], .run, false, none⟩, [⟨29, 40, (n (n z (l (.addr 3 0)) z (n (l (.int .i64 (.iv 3))) z z z)) (n z (l (.int .i64 (.iv 3))) z z) (n z z (n (l (.view 7)) z z z) (n (l (.pure 3 (.vv 4) (q 13 0))) z z z)) (n (l (.addr 2 0)) z (n (l (.pure 27 (.get (.vv 3) (.il 0)) (q 12 0))) z z z) z)), [.cU (O 29 [1, 1, 1, 1, 1, 1, 0, 1, 0, 1, 0]) [(5, [0]), (6, []), (7, []), (8, [])], .inBlock 1], [], .run, false, (some 5)⟩, ⟨65, 17, (n (l (.aF 5)) (m (.addr 6 0) z (l (.bool (.bl true))) z z) (n z (l (.aF 5)) z z) (m (.int .i64 (.iv 3)) z (l (.int .i64 (.iv 3))) z z)), [R 65 [1, 1, 0, 0, 0, 0] 8, .code (C 65 [1, 1, 0, 0, 0, 1]), .code (C 65 [1, 1, 0, 0, 1]), .inLoop (C 65 [1, 1, 0, 0]), .inBlock 0], [], .run, false, none⟩, ⟨29, 40, (n (n z (l (.addr 3 0)) z z) z z (n (l (.addr 2 0)) z z z)), [.inRangeFunc 5, .inBlock 0, .code (C 29 [1, 1, 1, 1, 1, 1, 1])], [⟨.collected 4, []⟩], .run, false, none⟩], ⟨8, 18, 6, (n (n (l (.loop ⟨.busy, none, 29, 40, (n (n z (l (.addr 3 0)) z z) z z (n (l (.addr 2 0)) z z z)), PA 29 [1, 1, 1, 1, 1, 1, 0, 1, 0], (C 29 [1, 1, 1, 1, 1, 1, 0, 1, 0, 0]), (C 29 [1, 1, 1, 1, 1, 1, 0, 1, 0, 1]), 4⟩)) z z z) (m (.cells [(.pure 27 (.get (.vv 3) (.il 0)) (q 11 0))]) (l (.cells [(.int .i64 (.ab (.get e0 (.il 0)))), (.pure 3 (.get e0 (.il 1)) (q 14 0)), (.pure 27 (.get e0 (.il 2)) (q 15 0)), (.pure 27 (.get e0 (.il 3)) (q 16 0)), (.pure 3 (.get (.get (.vv 2) (.il 0)) (.il 1)) (q 17 0))])) z z z) (m (.cells [(.view 7)]) (l (.arr 46 (.vv 5) 0)) z z z) (l (.deferred (some []))))⟩⟩
noncomputable def s3 : au := ⟨⟨59, 45, (n (m (.func 60 [] []) (l (.int .i64 (.iv 0))) (n (l (.pure 3 (.vv 5) (q 18 0))) z z z) z z) (n z (n (l (.int .i64 (.iv 2))) z z z) z z) (n z (n (l (.int .i64 (.iv 1))) z z z) z z) (n (l (.view 7)) z z z)), [.code (C 59 [1, 1, 1, 1, 0, 1, 0, 0]), .inLoop (C 59 [1, 1, 1, 1, 0, 1, 0, 0]), .inBlock 2, .code (C 59 [1, 1, 1, 1, 1])], [], .run, false, none⟩, [⟨29, 40, (n (n z (l (.addr 3 0)) z (n (l (.int .i64 (.iv 3))) z z z)) (n z (l (.int .i64 (.iv 3))) z z) (n z z (n (l (.view 8)) z z z) (n (l (.pure 3 (.vv 5) (q 21 0))) z z z)) (n (l (.addr 2 0)) z (n (l (.pure 27 (.get (.vv 3) (.il 0)) (q 20 0))) z z z) z)), [.cU (O 29 [1, 1, 1, 1, 1, 1, 0, 1, 0, 1, 0]) [(5, [0]), (6, []), (7, []), (8, [])], .inBlock 1], [], .run, false, (some 5)⟩, ⟨65, 17, (n (l (.aF 5)) (m (.addr 6 0) z (l (.bool (.bl true))) z z) (n z (l (.aF 5)) z z) (m (.int .i64 (.iv 3)) z (l (.int .i64 (.iv 3))) z z)), [R 65 [1, 1, 0, 0, 0, 0] 8, .code (C 65 [1, 1, 0, 0, 0, 1]), .code (C 65 [1, 1, 0, 0, 1]), .inLoop (C 65 [1, 1, 0, 0]), .inBlock 0], [], .run, false, none⟩, ⟨29, 40, (n (n z (l (.addr 3 0)) z z) z z (n (l (.addr 2 0)) z z z)), [.inRangeFunc 5, .inBlock 0, .code (C 29 [1, 1, 1, 1, 1, 1, 1])], [⟨.collected 4, []⟩], .run, false, none⟩], ⟨9, 26, 7, (n (n (l (.loop ⟨.busy, none, 29, 40, (n (n z (l (.addr 3 0)) z z) z z (n (l (.addr 2 0)) z z z)), PA 29 [1, 1, 1, 1, 1, 1, 0, 1, 0], (C 29 [1, 1, 1, 1, 1, 1, 0, 1, 0, 0]), (C 29 [1, 1, 1, 1, 1, 1, 0, 1, 0, 1]), 4⟩)) z z z) (m (.cells [(.pure 27 (.get (.vv 3) (.il 0)) (q 19 0))]) (l (.cells [(.int .i64 (.ab (.get e0 (.il 0)))), (.pure 3 (.get e0 (.il 1)) (q 22 0)), (.pure 27 (.get e0 (.il 2)) (q 23 0)), (.pure 27 (.get e0 (.il 3)) (q 24 0)), (.pure 3 (.get (.get (.vv 2) (.il 0)) (.il 1)) (q 25 0))])) z z z) (m (.cells [(.view 8)]) (l (.arr 53 (.vv 4) 0)) z z z) (m (.deferred (some [])) (l (.arr 46 (.vv 6) 0)) z z z))⟩⟩
theorem p0 : last K 29 32 [true] s0 = some ((.snoc (.snoc .emp .nil) (.aN (.ab (.get (.vv 2) (.il 1))))), [.call 47 [(HM (.vv 0)), (.vv 1)], .ask (.not (.eq (.ab (.get (.vv 2) (.il 1))) (.il 0)))]) := by kernel_rfl
theorem p1 : last K 29 51 [false, true] s0 = some ((.snoc (.snoc .emp .nil) (.aN (.ab (.get (.vv 3) (.il 1))))), [.call 47 [(HM (.vv 0)), (.vv 1)], .ask (.not (.not (.eq (.ab (.get (.vv 2) (.il 1))) (.il 0)))), .call 57 [(.snoc (.snoc .emp (HM (.get (.get (.vv 2) (.il 0)) (.il 0)))) (.get (.get (.vv 2) (.il 0)) (.il 1)))], .ask (.not (.eq (.ab (.get (.vv 3) (.il 1))) (.il 0)))]) := by kernel_rfl
theorem p2 : af K 67 [false, false] s0 s1 [] ⟨[(.il 0)], [], [(.vv 0), (.vv 1), (.vv 2), (.vv 3), .nil], [(q 0 0), (q 1 0), (q 2 0), (q 3 0), (q 3 0), (q 2 1), (q 2 2), (q 2 3), (q 2 4)]⟩ [(5, (some 5)), (2, (some 2)), (3, (some 3)), (7, none), (4, (some 4)), (6, (some 6))] = some (s1, [.call 47 [(HM (.vv 0)), (.vv 1)], .ask (.not (.not (.eq (.ab (.get (.vv 2) (.il 1))) (.il 0)))), .call 57 [(.snoc (.snoc .emp (HM (.get (.get (.vv 2) (.il 0)) (.il 0)))) (.get (.get (.vv 2) (.il 0)) (.il 1)))], .ask (.not (.not (.eq (.ab (.get (.vv 3) (.il 1))) (.il 0))))]) := by kernel_rfl
theorem p3 : af K 41 [true] s1 s2 [] ⟨[(.il 0), (.il 0), (.len (.get (.get (.vv 3) (.il 0)) (.iv 0))), (.iv 0)], [], [(.vv 0), (.vv 1), (.vv 2), (.vv 3), (.get (.get (.vv 3) (.il 0)) (.iv 0)), (.vv 4)], [(q 0 0), (q 1 0), (q 2 0), (q 3 0), (q 4 0), (q 5 0), (q 6 0), (q 7 0), (q 8 0), (.el (q 4 0) (.iv 0) 1 0), (.el (q 4 0) (.iv 0) 1 0), (q 4 0), (q 4 0), (.el (q 4 0) (.iv 0) 1 0), (q 5 0), (q 6 0), (q 7 0), (q 8 0)]⟩ [(2, (some 2)), (3, (some 3)), (7, (some 7)), (5, (some 5)), (4, (some 4)), (6, (some 6))] = some (s2, [.ask (.lt (.iv 0) (.len (.get (.get (.vv 2) (.il 0)) (.il 1)))), .ask (IB (.iv 0) (.get (.vv 3) (.il 0)))]) := by kernel_rfl
theorem p4 : last K 29 28 [false] s1 = some ((.snoc (.snoc .emp (.vv 4)) (.aN (.il 0))), [.ask (.not (.lt (.iv 0) (.len (.get (.get (.vv 2) (.il 0)) (.il 1)))))]) := by kernel_rfl
theorem p5 : af K 40 [true] s2 s2 [] ⟨[(.add (.iv 0) (.ab (.get (.vv 4) (.iv 1)))), (.add (.iv 1) (.il 1)), (.iv 2), (.iv 3)], [], [(.vv 0), (.vv 1), (.vv 2), (.vv 3), (.vv 4), (.vv 5)], (Z [0, 1, 2, 3, 4, 5, 6, 7, 8, 9, 10, 11, 12, 13, 14, 15, 16, 17])⟩ [(2, (some 2)), (3, (some 3)), (7, (some 7)), (5, (some 5)), (4, (some 4)), (6, (some 6))] = some (s2, [.ask (.lt (.iv 1) (.iv 2)), .ask (IB (.iv 1) (.vv 4)), .ask (FT (.add (.iv 0) (.ab (.get (.vv 4) (.iv 1))))), .ask (FT (.add (.iv 1) (.il 1)))]) := by kernel_rfl
theorem p6 : af K 20 [false] s2 s3 [] ⟨[(.iv 0), (.il 0), (.len (.vv 4)), (.iv 3)], [], [(.vv 0), (.vv 1), (.vv 2), (.vv 3), .nil, (.vv 4), (.vv 5)], (Z [0, 1, 2, 3, 4, 5, 6, 7, 8, 9, 10, 11, 12, 13, 14, 15, 16, 17, 9, 11, 12, 13, 14, 15, 16, 17])⟩ [(7, none), (2, (some 2)), (3, (some 3)), (8, (some 7)), (5, (some 5)), (4, (some 4)), (6, (some 6))] = some (s3, [.ask (.not (.lt (.iv 1) (.iv 2)))]) := by kernel_rfl
theorem p7 : af K 53 [true] s3 s3 [] ⟨[(.iv 0), (.add (.iv 1) (.il 1)), (.iv 2), (.iv 3)], [], [(.vv 0), (.vv 1), (.vv 2), (.vv 3), (.snoc (.vv 4) (.snoc (.snoc .emp (.aN (.ab (.get (.get (.vv 7) (.il 0)) (.il 0))))) (.aN (.ab (.get (.get (.vv 7) (.il 0)) (.il 1)))))), (.vv 5), (.vv 6)], (Z [0, 1, 2, 3, 4, 5, 6, 7, 8, 9, 10, 11, 12, 13, 14, 15, 16, 17, 18, 19, 20, 21, 22, 23, 24, 25])⟩ [(7, (some 11)), (2, (some 2)), (3, (some 3)), (8, (some 8)), (5, (some 5)), (4, (some 4)), (6, (some 6))] = some (s3, [.ask (.lt (.iv 1) (.iv 2)), .ask (IB (.iv 1) (.vv 5)), .call 66 [(.aN (.ab (.get (.vv 5) (.iv 1)))), (.aN (.iv 0))], .ask (.le (.add (.len (.vv 4)) (.il 1)) (.il 4398046510592)), .ask (FT (.add (.iv 1) (.il 1)))]) := by kernel_rfl
theorem p8 : af K 34 [false] s3 s1 [] ⟨[(.add (.iv 3) (.il 1))], [], [(.vv 0), (.vv 1), (.vv 2), (.vv 3), (.snoc (.vv 6) (.vv 4))], (Z [0, 1, 2, 3, 19, 22, 23, 24, 25])⟩ [(5, (some 5)), (2, (some 2)), (3, (some 3)), (7, (some 10)), (4, (some 4)), (6, (some 6))] = some (s1, [.ask (.not (.lt (.iv 1) (.iv 2))), .ask (.le (.add (.len (.vv 6)) (.il 1)) (.il 2932031006890)), .ask (FT (.add (.iv 3) (.il 1)))]) := by kernel_rfl
theorem b : aW prog 29 = some s0 := by kernel_rfl
end bE
end X
namespace X
open Go Go.a9 Go.Sym
namespace bg
abbrev f : Nat := 31
noncomputable def K : dj := ⟨prog, pl, [], [47, 57, 49, 66], []⟩
noncomputable def e0 : E := .get (.get (.vv 2) (.il 0)) (.il 0)
noncomputable def e1 : E := .get (.get (.vv 2) (.il 0)) (.il 1)
noncomputable def e2 : SV := .int .i64 (.ab (.get e0 (.il 0)))
noncomputable def s0 : au := ⟨⟨31, 72, (m (.agg [(.int .i64 (.ab (.get (.vv 0) (.il 0)))), (.pure 3 (.get (.vv 0) (.il 1)) (q 0 1)), (.pure 27 (.get (.vv 0) (.il 2)) (q 0 2)), (.pure 27 (.get (.vv 0) (.il 3)) (q 0 3))]) (l (.pure 3 (.vv 1) (q 1 0))) z z z), [.code (C 31 [])], [], .run, false, none⟩, [], ⟨0, 2, 2, z⟩⟩
noncomputable def s1 : au := ⟨⟨65, 17, (n (l (.aF 6)) (l (.addr 7 0)) z (l (.int .i64 (.iv 0)))), [.code (C 65 [1, 1, 0, 0]), .inLoop (C 65 [1, 1, 0, 0]), .inBlock 0], [], .run, false, none⟩, [⟨31, 72, (n (n z (l (.addr 3 0)) z z) (n z (l (.addr 4 0)) z z) z (n (l (.addr 2 0)) z z z)), [.inRangeFunc 6, .inBlock 0, .code (C 31 [1, 1, 1, 1, 1, 1, 1, 1])], [⟨.collected 5, []⟩], .run, false, none⟩], ⟨9, 11, 6, (n (n (l (.deferred (some []))) z z z) (m (.cells [(.pure 27 (.get (.vv 3) (.il 0)) (q 5 0))]) (l (.loop ⟨.ready, none, 31, 72, (n (n z (l (.addr 3 0)) z z) (n z (l (.addr 4 0)) z z) z (n (l (.addr 2 0)) z z z)), PA 31 [1, 1, 1, 1, 1, 1, 1, 0, 1, 0], (C 31 [1, 1, 1, 1, 1, 1, 1, 0, 1, 0, 0]), (C 31 [1, 1, 1, 1, 1, 1, 1, 0, 1, 0, 1]), 5⟩)) z z z) (m (.cells [(.pure 27 (.vv 4) (q 6 0))]) (l (.cells [e2, (.pure 3 (.get e0 (.il 1)) (q 7 0)), (.pure 27 (.get e0 (.il 2)) (q 8 0)), (.pure 27 (.get e0 (.il 3)) (q 9 0)), (.pure 3 e1 (q 10 0))])) z z z) (m (.cells [(.view 8)]) (l (.arr 46 (.vv 5) 0)) z z z))⟩⟩
noncomputable def s2 : au := ⟨⟨31, 72, (n (n z (l (.addr 3 0)) z z) (n z (l (.addr 4 0)) z z) (n z (m (.int .i64 (.iv 1)) z (l (.int .i64 (.iv 2))) z z) z z) (n (l (.addr 2 0)) (m (.view 8) z (l (.int .i64 (.iv 0))) z z) z z)), [.code (C 31 [1, 1, 1, 1, 1, 1, 1, 0, 1, 0, 1, 0, 1, 0, 1, 0, 0]), .inLoop (C 31 [1, 1, 1, 1, 1, 1, 1, 0, 1, 0, 1, 0, 1, 0, 1, 0, 0]), .inBlock 2, .code (C 31 [1, 1, 1, 1, 1, 1, 1, 0, 1, 0, 1, 0, 1, 1]), .inBlock 1], [], .run, false, (some 6)⟩, [⟨65, 17, (n (l (.aF 6)) (m (.addr 7 0) z (l (.bool (.bl true))) z z) (n z (l (.aF 6)) z z) (m (.int .i64 (.iv 1)) z (l (.int .i64 (.iv 1))) z z)), [R 65 [1, 1, 0, 0, 0, 0] 8, .code (C 65 [1, 1, 0, 0, 0, 1]), .code (C 65 [1, 1, 0, 0, 1]), .inLoop (C 65 [1, 1, 0, 0]), .inBlock 0], [], .run, false, none⟩, ⟨31, 72, (n (n z (l (.addr 3 0)) z z) (n z (l (.addr 4 0)) z z) z (n (l (.addr 2 0)) z z z)), [.inRangeFunc 6, .inBlock 0, .code (C 31 [1, 1, 1, 1, 1, 1, 1, 1])], [⟨.collected 5, []⟩], .run, false, none⟩], ⟨10, 17, 7, (n (n (l (.deferred (some []))) (l (.arr 46 (.vv 6) 0)) z z) (m (.cells [(.pure 27 (.get (.vv 3) (.il 0)) (q 11 0))]) (l (.loop ⟨.busy, none, 31, 72, (n (n z (l (.addr 3 0)) z z) (n z (l (.addr 4 0)) z z) z (n (l (.addr 2 0)) z z z)), PA 31 [1, 1, 1, 1, 1, 1, 1, 0, 1, 0], (C 31 [1, 1, 1, 1, 1, 1, 1, 0, 1, 0, 0]), (C 31 [1, 1, 1, 1, 1, 1, 1, 0, 1, 0, 1]), 5⟩)) z z z) (m (.cells [(.pure 27 (.vv 4) (q 12 0))]) (l (.cells [e2, (.pure 3 (.get e0 (.il 1)) (q 13 0)), (.pure 27 (.get e0 (.il 2)) (q 14 0)), (.pure 27 (.get e0 (.il 3)) (q 15 0)), (.pure 3 e1 (q 16 0))])) z z z) (m (.cells [(.view 9)]) (l (.arr 103 (.vv 5) 0)) z z z))⟩⟩
noncomputable def s3 : au := ⟨⟨70, 45, (m (.view 8) (m (.func 71 [] []) (l (.int .i64 (.iv 1))) z (l (.view 8)) z) (n z z (l (.int .i64 (.iv 0))) z) (n z z (l (.int .i64 (.iv 2))) z) z), [.code (C 70 [1, 1, 0, 1, 0, 0]), .inLoop (C 70 [1, 1, 0, 1, 0, 0]), .inBlock 0, .code (C 70 [1, 1, 1])], [], .run, false, none⟩, [⟨31, 72, (n z (n z (l (.addr 4 0)) z (n z z (l (.view 9)) z)) (n z z z (n z z (l (.view 8)) z)) (n z (l (.view 8)) z z)), [.cU (O 31 [1, 1, 1, 1, 1, 1, 1, 0, 1, 0, 1, 0, 1, 1]) [(2, [0]), (3, []), (4, []), (5, [])], .inBlock 1], [], .run, false, (some 6)⟩, ⟨65, 17, (n (l (.aF 6)) (m (.addr 7 0) z (l (.bool (.bl true))) z z) (n z (l (.aF 6)) z z) (m (.int .i64 (.iv 3)) z (l (.int .i64 (.iv 3))) z z)), [R 65 [1, 1, 0, 0, 0, 0] 8, .code (C 65 [1, 1, 0, 0, 0, 1]), .code (C 65 [1, 1, 0, 0, 1]), .inLoop (C 65 [1, 1, 0, 0]), .inBlock 0], [], .run, false, none⟩, ⟨31, 72, (n (n z (l (.addr 3 0)) z z) (n z (l (.addr 4 0)) z z) z (n (l (.addr 2 0)) z z z)), [.inRangeFunc 6, .inBlock 0, .code (C 31 [1, 1, 1, 1, 1, 1, 1, 1])], [⟨.collected 5, []⟩], .run, false, none⟩], ⟨10, 23, 7, (n (n (l (.deferred (some []))) (l (.arr 46 (.vv 6) 0)) z z) (m (.cells [(.pure 27 (.get (.vv 3) (.il 0)) (q 17 0))]) (l (.loop ⟨.busy, none, 31, 72, (n (n z (l (.addr 3 0)) z z) (n z (l (.addr 4 0)) z z) z (n (l (.addr 2 0)) z z z)), PA 31 [1, 1, 1, 1, 1, 1, 1, 0, 1, 0], (C 31 [1, 1, 1, 1, 1, 1, 1, 0, 1, 0, 0]), (C 31 [1, 1, 1, 1, 1, 1, 1, 0, 1, 0, 1]), 5⟩)) z z z) (m (.cells [(.pure 27 (.vv 4) (q 18 0))]) (l (.cells [e2, (.pure 3 (.get e0 (.il 1)) (q 19 0)), (.pure 27 (.get e0 (.il 2)) (q 20 0)), (.pure 27 (.get e0 (.il 3)) (q 21 0)), (.pure 3 e1 (q 22 0))])) z z z) (m (.cells [(.view 9)]) (l (.arr 103 (.vv 5) 0)) z z z))⟩⟩
noncomputable def s4 : au := ⟨⟨70, 45, (n (m (.func 71 [] []) (l (.int .i64 (.iv 1))) (n (l (.view 8)) z z z) z z) (n z (n (l (.int .i64 (.len (.vv 5)))) z z z) z z) (n z (n (l (.int .i64 (.iv 2))) z z z) z z) (n (l (.view 9)) z z z)), [.code (C 70 [1, 1, 1, 1, 0, 1, 0, 0]), .inLoop (C 70 [1, 1, 1, 1, 0, 1, 0, 0]), .inBlock 2, .code (C 70 [1, 1, 1, 1, 1])], [], .run, false, none⟩, [⟨31, 72, (n z (n z (l (.addr 4 0)) z (n z z (l (.view 10)) z)) (n z z z (n z z (l (.view 8)) z)) (n z (l (.view 8)) z z)), [.cU (O 31 [1, 1, 1, 1, 1, 1, 1, 0, 1, 0, 1, 0, 1, 1]) [(2, [0]), (3, []), (4, []), (5, [])], .inBlock 1], [], .run, false, (some 6)⟩, ⟨65, 17, (n (l (.aF 6)) (m (.addr 7 0) z (l (.bool (.bl true))) z z) (n z (l (.aF 6)) z z) (m (.int .i64 (.iv 3)) z (l (.int .i64 (.iv 3))) z z)), [R 65 [1, 1, 0, 0, 0, 0] 8, .code (C 65 [1, 1, 0, 0, 0, 1]), .code (C 65 [1, 1, 0, 0, 1]), .inLoop (C 65 [1, 1, 0, 0]), .inBlock 0], [], .run, false, none⟩, ⟨31, 72, (n (n z (l (.addr 3 0)) z z) (n z (l (.addr 4 0)) z z) z (n (l (.addr 2 0)) z z z)), [.inRangeFunc 6, .inBlock 0, .code (C 31 [1, 1, 1, 1, 1, 1, 1, 1])], [⟨.collected 5, []⟩], .run, false, none⟩], ⟨11, 29, 8, (n (n (l (.deferred (some []))) (l (.arr 53 (.vv 6) 0)) z z) (m (.cells [(.pure 27 (.get (.vv 3) (.il 0)) (q 23 0))]) (l (.loop ⟨.busy, none, 31, 72, (n (n z (l (.addr 3 0)) z z) (n z (l (.addr 4 0)) z z) z (n (l (.addr 2 0)) z z z)), PA 31 [1, 1, 1, 1, 1, 1, 1, 0, 1, 0], (C 31 [1, 1, 1, 1, 1, 1, 1, 0, 1, 0, 0]), (C 31 [1, 1, 1, 1, 1, 1, 1, 0, 1, 0, 1]), 5⟩)) (l (.arr 46 (.vv 7) 0)) z z) (m (.cells [(.pure 27 (.vv 4) (q 24 0))]) (l (.cells [e2, (.pure 3 (.get e0 (.il 1)) (q 25 0)), (.pure 27 (.get e0 (.il 2)) (q 26 0)), (.pure 27 (.get e0 (.il 3)) (q 27 0)), (.pure 3 e1 (q 28 0))])) z z z) (m (.cells [(.view 10)]) (l (.arr 103 (.vv 5) 0)) z z z))⟩⟩
theorem p0 : last K 31 32 [true] s0 = some ((.snoc (.snoc .emp .nil) (.aN (.ab (.get (.vv 2) (.il 1))))), [.call 47 [(HM (.vv 0)), (.vv 1)], .ask (.not (.eq (.ab (.get (.vv 2) (.il 1))) (.il 0)))]) := by kernel_rfl
theorem p1 : last K 31 51 [false, true] s0 = some ((.snoc (.snoc .emp .nil) (.aN (.ab (.get (.vv 3) (.il 1))))), [.call 47 [(HM (.vv 0)), (.vv 1)], .ask (.not (.not (.eq (.ab (.get (.vv 2) (.il 1))) (.il 0)))), .call 57 [(.snoc (.snoc .emp (HM (.get (.get (.vv 2) (.il 0)) (.il 0)))) (.get (.get (.vv 2) (.il 0)) (.il 1)))], .ask (.not (.eq (.ab (.get (.vv 3) (.il 1))) (.il 0)))]) := by kernel_rfl
theorem p2 : af K 74 [false, false] s0 s1 [] ⟨[(.il 0)], [], [(.vv 0), (.vv 1), (.vv 2), (.vv 3), (.vv 4), .nil], [(q 0 0), (q 1 0), (q 2 0), (q 3 0), (q 4 0), (q 3 0), (q 4 0), (q 2 1), (q 2 2), (q 2 3), (q 2 4)]⟩ [(6, (some 6)), (2, (some 2)), (3, (some 3)), (4, (some 4)), (8, none), (5, (some 5)), (7, (some 7))] = some (s1, [.call 47 [(HM (.vv 0)), (.vv 1)], .ask (.not (.not (.eq (.ab (.get (.vv 2) (.il 1))) (.il 0)))), .call 57 [(.snoc (.snoc .emp (HM (.get (.get (.vv 2) (.il 0)) (.il 0)))) (.get (.get (.vv 2) (.il 0)) (.il 1)))], .ask (.not (.not (.eq (.ab (.get (.vv 3) (.il 1))) (.il 0)))), .call 49 [(.snoc (.snoc .emp (HM (.get (.get (.vv 2) (.il 0)) (.il 0)))) (.get (.get (.vv 2) (.il 0)) (.il 1)))]]) := by kernel_rfl
theorem p3 : af K 36 [true] s1 s2 [] ⟨[(.il 0), (.iv 0), (.len (.rep (.len (.get (.get (.vv 3) (.il 0)) (.iv 0))) (.snoc (.snoc .emp (.aN (.il 0))) (.aN (.il 0)))))], [], [(.vv 0), (.vv 1), (.vv 2), (.vv 3), (.vv 4), (.rep (.len (.get (.get (.vv 3) (.il 0)) (.iv 0))) (.snoc (.snoc .emp (.aN (.il 0))) (.aN (.il 0)))), (.vv 5)], (Z [0, 1, 2, 3, 4, 5, 6, 7, 8, 9, 10, 5, 6, 7, 8, 9, 10])⟩ [(2, (some 2)), (3, (some 3)), (4, (some 4)), (9, (some 8)), (8, (some 9)), (6, (some 6)), (5, (some 5)), (7, (some 7))] = some (s2, [.ask (.lt (.iv 0) (.len (.get (.get (.vv 2) (.il 0)) (.il 1)))), .ask (IB (.iv 0) (.get (.vv 3) (.il 0))), .ask (.and (.le (.il 0) (.len (.get (.get (.vv 3) (.il 0)) (.iv 0)))) (.le (.len (.get (.get (.vv 3) (.il 0)) (.iv 0))) (.il 8796093022208)))]) := by kernel_rfl
theorem p4 : last K 31 28 [false] s1 = some ((.snoc (.snoc .emp (.vv 5)) (.aN (.il 0))), [.ask (.not (.lt (.iv 0) (.len (.get (.get (.vv 2) (.il 0)) (.il 1)))))]) := by kernel_rfl
theorem p5 : af K 41 [true] s2 s2 [] ⟨[(.add (.iv 0) (.il 1)), (.iv 1), (.iv 2)], [], [(.vv 0), (.vv 1), (.vv 2), (.vv 3), (.vv 4), (.set (.vv 5) (.iv 0) (.snoc (.snoc .emp (.aN (.ab (.get (.get (.get (.vv 3) (.il 0)) (.iv 1)) (.iv 0))))) (.aN (.ab (.get (.get (.vv 4) (.iv 1)) (.iv 0)))))), (.vv 6)], (Z [0, 1, 2, 3, 4, 5, 6, 7, 8, 9, 10, 11, 12, 13, 14, 15, 16])⟩ [(2, (some 2)), (3, (some 3)), (4, (some 4)), (9, (some 9)), (8, (some 8)), (6, (some 6)), (5, (some 5)), (7, (some 7))] = some (s2, [.ask (.lt (.iv 0) (.iv 2)), .ask (IB (.iv 1) (.get (.vv 3) (.il 0))), .ask (IB (.iv 0) (.get (.get (.vv 3) (.il 0)) (.iv 1))), .ask (IB (.iv 1) (.vv 4)), .ask (IB (.iv 0) (.get (.vv 4) (.iv 1))), .ask (IB (.iv 0) (.vv 5)), .ask (IB (.iv 0) (.vv 5)), .ask (FT (.add (.iv 0) (.il 1)))]) := by kernel_rfl
theorem p6 : af K 28 [false] s2 s3 [] ⟨[(.len (.vv 5)), (.il 0), (.il 0), (.iv 1)], [], [(.vv 0), (.vv 1), (.vv 2), (.vv 3), (.vv 4), (.vv 5), (.vv 6)], (Z [0, 1, 2, 3, 4, 5, 6, 7, 8, 9, 10, 11, 12, 13, 14, 15, 16, 11, 12, 13, 14, 15, 16])⟩ [(8, (some 8)), (4, (some 4)), (9, (some 9)), (6, (some 6)), (2, (some 2)), (3, (some 3)), (5, (some 5)), (7, (some 7))] = some (s3, [.ask (.not (.lt (.iv 0) (.iv 2)))]) := by kernel_rfl
theorem p7 : af K 46 [true] s3 s3 [] ⟨[(.iv 0), (.add (.iv 1) (.mul (.ab (.get (.get (.vv 5) (.iv 2)) (.il 0))) (.ab (.get (.get (.vv 5) (.iv 2)) (.il 1))))), (.add (.iv 2) (.il 1)), (.iv 3)], [], [(.vv 0), (.vv 1), (.vv 2), (.vv 3), (.vv 4), (.vv 5), (.vv 6)], (Z [0, 1, 2, 3, 4, 5, 6, 7, 8, 9, 10, 11, 12, 13, 14, 15, 16, 17, 18, 19, 20, 21, 22])⟩ [(8, (some 8)), (4, (some 4)), (9, (some 9)), (6, (some 6)), (2, (some 2)), (3, (some 3)), (5, (some 5)), (7, (some 7))] = some (s3, [.ask (.lt (.iv 2) (.iv 0)), .ask (IB (.iv 2) (.vv 5)), .ask (IB (.iv 2) (.vv 5)), .ask (FT (.mul (.ab (.get (.get (.vv 5) (.iv 2)) (.il 0))) (.ab (.get (.get (.vv 5) (.iv 2)) (.il 1))))), .ask (FT (.add (.iv 1) (.mul (.ab (.get (.get (.vv 5) (.iv 2)) (.il 0))) (.ab (.get (.get (.vv 5) (.iv 2)) (.il 1)))))), .ask (FT (.add (.iv 2) (.il 1)))]) := by kernel_rfl
theorem p8 : af K 20 [false] s3 s4 [] ⟨[(.iv 0), (.iv 1), (.il 0), (.iv 3)], [], [(.vv 0), (.vv 1), (.vv 2), (.vv 3), (.vv 4), (.vv 5), .nil, (.vv 6)], (Z [0, 1, 2, 3, 4, 5, 6, 7, 8, 9, 10, 11, 12, 13, 14, 15, 16, 17, 18, 19, 20, 21, 22, 17, 18, 19, 20, 21, 22])⟩ [(9, none), (8, (some 8)), (4, (some 4)), (10, (some 9)), (6, (some 6)), (2, (some 2)), (3, (some 3)), (5, (some 5)), (7, (some 7))] = some (s4, [.ask (.not (.lt (.iv 2) (.iv 0)))]) := by kernel_rfl
theorem p9 : af K 59 [true] s4 s4 [] ⟨[(.iv 0), (.iv 1), (.add (.iv 2) (.il 1)), (.iv 3)], [], [(.vv 0), (.vv 1), (.vv 2), (.vv 3), (.vv 4), (.vv 5), (.snoc (.vv 6) (.snoc (.snoc .emp (.aN (.ab (.get (.get (.vv 8) (.il 0)) (.il 0))))) (.aN (.ab (.get (.get (.vv 8) (.il 0)) (.il 1)))))), (.vv 7)], (Z [0, 1, 2, 3, 4, 5, 6, 7, 8, 9, 10, 11, 12, 13, 14, 15, 16, 17, 18, 19, 20, 21, 22, 23, 24, 25, 26, 27, 28])⟩ [(9, (some 15)), (8, (some 8)), (4, (some 4)), (10, (some 10)), (6, (some 6)), (2, (some 2)), (3, (some 3)), (5, (some 5)), (7, (some 7))] = some (s4, [.ask (.lt (.iv 2) (.len (.vv 5))), .ask (IB (.iv 2) (.vv 5)), .ask (IB (.iv 2) (.vv 5)), .ask (FT (.mul (.ab (.get (.get (.vv 5) (.iv 2)) (.il 0))) (.ab (.get (.get (.vv 5) (.iv 2)) (.il 1))))), .call 66 [(.aN (.mul (.ab (.get (.get (.vv 5) (.iv 2)) (.il 0))) (.ab (.get (.get (.vv 5) (.iv 2)) (.il 1))))), (.aN (.iv 1))], .ask (.le (.add (.len (.vv 6)) (.il 1)) (.il 4398046510592)), .ask (FT (.add (.iv 2) (.il 1)))]) := by kernel_rfl
theorem CI : af K 34 [false] s4 s1 [] ⟨[(.add (.iv 3) (.il 1))], [], [(.vv 0), (.vv 1), (.vv 2), (.vv 3), (.vv 4), (.snoc (.vv 7) (.vv 6))], (Z [0, 1, 2, 3, 4, 23, 24, 25, 26, 27, 28])⟩ [(6, (some 6)), (2, (some 2)), (3, (some 3)), (4, (some 4)), (8, (some 12)), (5, (some 5)), (7, (some 7))] = some (s1, [.ask (.not (.lt (.iv 2) (.len (.vv 5)))), .ask (.le (.add (.len (.vv 7)) (.il 1)) (.il 2932031006890)), .ask (FT (.add (.iv 3) (.il 1)))]) := by kernel_rfl
theorem b : aW prog 31 = some s0 := by kernel_rfl
end bg
end X
namespace X
open Go Go.a9 Go.Sym
namespace jD
abbrev f : Nat := 85
noncomputable def K : dj := ⟨prog, pl, [], [], []⟩
noncomputable def s0 : au := ⟨⟨85, 18, (l (.pure 3 (.vv 0) (q 0 0))), [.code (C 85 [])], [], .run, false, none⟩, [], ⟨0, 1, 1, z⟩⟩
noncomputable def s1 : au := ⟨⟨85, 18, (m (.pure 3 (.vv 0) (q 1 0)) z z (l (.int .i64 (.iv 0))) (l (.int .i64 (.iv 1)))), [.code (C 85 [1, 1, 0, 1, 0, 0]), .inLoop (C 85 [1, 1, 0, 1, 0, 0]), .inBlock 0, .code (C 85 [1, 1, 1])], [], .run, false, none⟩, [], ⟨0, 2, 1, z⟩⟩
theorem p0 : af K 15 [] s0 s1 [] ⟨[(.il 0), (.il 0)], [], [(.vv 0)], (Z [0, 0])⟩ [] = some (s1, []) := by kernel_rfl
theorem p1 : af K 28 [true] s1 s1 [] ⟨[(.add (.iv 0) (.ab (.get (.vv 0) (.iv 1)))), (.add (.iv 1) (.il 1))], [], [(.vv 0)], (Z [0, 1])⟩ [] = some (s1, [.ask (.lt (.iv 1) (.len (.vv 0))), .ask (IB (.iv 1) (.vv 0)), .ask (FT (.add (.iv 0) (.ab (.get (.vv 0) (.iv 1))))), .ask (FT (.add (.iv 1) (.il 1)))]) := by kernel_rfl
theorem p2 : last K 85 16 [false] s1 = some ((.aN (.iv 0)), [.ask (.not (.lt (.iv 1) (.len (.vv 0))))]) := by kernel_rfl
theorem b : aW prog 85 = some s0 := by kernel_rfl
end jD
end X
namespace X
open Go Go.a9 Go.Sym
namespace eV
abbrev f : Nat := 62
noncomputable def K : dj := ⟨prog, pl, [], [85, 34], []⟩
noncomputable def s0 : au := ⟨⟨62, 22, (l (.pure 3 (.vv 0) (q 0 0))), [.code (C 62 [])], [], .run, false, none⟩, [], ⟨0, 1, 1, z⟩⟩
noncomputable def s1 : au := ⟨⟨62, 22, (m (.pure 3 (.vv 0) (q 1 0)) z z (l (.view 0)) (l (.int .i64 (.iv 0)))), [.code (C 62 [1, 1, 0, 1, 0, 0]), .inLoop (C 62 [1, 1, 0, 1, 0, 0]), .inBlock 0, .code (C 62 [1, 1, 1])], [], .run, false, none⟩, [], ⟨1, 2, 2, (l (.arr 53 (.vv 1) 0))⟩⟩
theorem p0 : af K 15 [] s0 s1 [] ⟨[(.il 0)], [], [(.vv 0), .nil], (Z [0, 0])⟩ [(0, none)] = some (s1, []) := by kernel_rfl
theorem p1 : af K 32 [true] s1 s1 [] ⟨[(.add (.iv 0) (.il 1))], [], [(.vv 0), (.snoc (.vv 1) (.snoc (.snoc .emp (.aN (.ab (.get (.vv 3) (.il 0))))) (.aN (.ab (.get (.vv 3) (.il 1))))))], (Z [0, 1])⟩ [(0, (some 2))] = some (s1, [.ask (.lt (.iv 0) (.len (.vv 0))), .ask (IB (.iv 0) (.vv 0)), .call 85 [(.vv 0)], .call 34 [(.aN (.ab (.get (.vv 0) (.iv 0)))), (.aN (.ab (.vv 2)))], .ask (.le (.add (.len (.vv 1)) (.il 1)) (.il 4398046510592)), .ask (FT (.add (.iv 0) (.il 1)))]) := by kernel_rfl
theorem p2 : last K 62 16 [false] s1 = some ((.vv 1), [.ask (.not (.lt (.iv 0) (.len (.vv 0))))]) := by kernel_rfl
theorem b : aW prog 62 = some s0 := by kernel_rfl
end eV
end X
namespace X
open Go Go.a9 Go.Sym
namespace Bu
abbrev f : Nat := 61
noncomputable def K : dj := ⟨prog, pl, [], [19, 85], []⟩
noncomputable def s0 : au := ⟨⟨61, 16, (m (.agg [(.int .i64 (.ab (.get (.vv 0) (.il 0)))), (.pure 3 (.get (.vv 0) (.il 1)) (q 0 1)), (.pure 27 (.get (.vv 0) (.il 2)) (q 0 2)), (.pure 27 (.get (.vv 0) (.il 3)) (q 0 3))]) (l (.pure 3 (.vv 1) (q 1 0))) z z z), [.code (C 61 [])], [], .run, false, none⟩, [], ⟨0, 2, 2, z⟩⟩
theorem p0 : last K 61 24 [] s0 = some ((.aN (.ab (.vv 3))), [.call 19 [(HM (.vv 0)), (.vv 1)], .ask (FT (.sub (.len (.vv 2)) (.il 1))), .ask (IB (.sub (.len (.vv 2)) (.il 1)) (.vv 2)), .call 85 [(.get (.vv 2) (.sub (.len (.vv 2)) (.il 1)))]]) := by kernel_rfl
theorem b : aW prog 61 = some s0 := by kernel_rfl
end Bu
end X
namespace X
open Go Go.a9 Go.Sym
namespace iP
abbrev f : Nat := 28
noncomputable def K : dj := ⟨prog, pl, [], [17, 61, 34], []⟩
noncomputable def s0 : au := ⟨⟨28, 32, (m (.agg [(.int .i64 (.ab (.get (.vv 0) (.il 0)))), (.pure 3 (.get (.vv 0) (.il 1)) (q 0 1)), (.pure 27 (.get (.vv 0) (.il 2)) (q 0 2)), (.pure 27 (.get (.vv 0) (.il 3)) (q 0 3))]) (l (.pure 3 (.vv 1) (q 1 0))) z z z), [.code (C 28 [])], [], .run, false, none⟩, [], ⟨0, 2, 2, z⟩⟩
noncomputable def s1 : au := ⟨⟨28, 32, (n (l (.pure 3 (.vv 1) (q 3 0))) (l (.addr 0 0)) (n (l (.int .i64 (.iv 0))) z z z) (m (.addr 1 0) (l (.int .i64 (.iv 1))) z z z)), [.code (C 28 [1, 1, 1, 0, 1, 0, 0]), .inLoop (C 28 [1, 1, 1, 0, 1, 0, 0]), .inBlock 0, .code (C 28 [1, 1, 1, 1])], [], .run, false, none⟩, [], ⟨2, 7, 3, (m (.cells [(.int .i64 (.ab (.get (.vv 0) (.il 0)))), (.pure 3 (.get (.vv 0) (.il 1)) (q 4 0)), (.pure 27 (.get (.vv 0) (.il 2)) (q 5 0)), (.pure 27 (.get (.vv 0) (.il 3)) (q 6 0))]) (l (.cells [(.int .i64 (.il 0)), (.int .i64 (.il 0))])) z z z)⟩⟩
theorem p0 : last K 28 28 [true] s0 = some ((.snoc (.snoc .emp (.snoc (.snoc .emp (.aN (.il 0))) (.aN (.il 0)))) (.aN (.ab (.vv 2)))), [.call 17 [(HM (.vv 0)), (.vv 1)], .ask (.not (.eq (.ab (.vv 2)) (.il 0)))]) := by kernel_rfl
theorem p1 : af K 32 [false] s0 s1 [] ⟨[(.il 1), (.il 0)], [], [(.vv 0), (.vv 1), (.vv 2)], [(q 0 0), (q 1 0), (q 2 0), (q 1 0), (q 0 1), (q 0 2), (q 0 3)]⟩ [(0, (some 0)), (1, (some 1))] = some (s1, [.call 17 [(HM (.vv 0)), (.vv 1)], .ask (.not (.not (.eq (.ab (.vv 2)) (.il 0))))]) := by kernel_rfl
theorem p2 : af K 27 [true] s1 s1 [] ⟨[(.mul (.iv 0) (.ab (.get (.vv 0) (.il 0)))), (.add (.iv 1) (.il 1))], [], [(.vv 0), (.vv 1), (.vv 2)], (Z [0, 1, 2, 3, 4, 5, 6])⟩ [(0, (some 0)), (1, (some 1))] = some (s1, [.ask (FT (.mul (.il 2) (.len (.vv 1)))), .ask (.lt (.iv 1) (.mul (.il 2) (.len (.vv 1)))), .ask (FT (.mul (.iv 0) (.ab (.get (.vv 0) (.il 0))))), .ask (FT (.add (.iv 1) (.il 1)))]) := by kernel_rfl
theorem p3 : last K 28 22 [false] s1 = some ((.snoc (.snoc .emp (.snoc (.snoc .emp (.aN (.ab (.get (.vv 4) (.il 0))))) (.aN (.ab (.get (.vv 4) (.il 1)))))) (.aN (.il 0))), [.ask (FT (.mul (.il 2) (.len (.vv 1)))), .ask (.not (.lt (.iv 1) (.mul (.il 2) (.len (.vv 1))))), .call 61 [(HM (.vv 0)), (.vv 1)], .call 34 [(.aN (.ab (.vv 3))), (.aN (.iv 0))]]) := by kernel_rfl
theorem b : aW prog 28 = some s0 := by kernel_rfl
end iP
end X
namespace X
open Go Go.a9 Go.Sym
namespace cG
abbrev f : Nat := 30
noncomputable def K : dj := ⟨prog, pl, [], [17, 61, 19, 62], []⟩
noncomputable def s0 : au := ⟨⟨30, 38, (m (.agg [(.int .i64 (.ab (.get (.vv 0) (.il 0)))), (.pure 3 (.get (.vv 0) (.il 1)) (q 0 1)), (.pure 27 (.get (.vv 0) (.il 2)) (q 0 2)), (.pure 27 (.get (.vv 0) (.il 3)) (q 0 3))]) (l (.pure 3 (.vv 1) (q 1 0))) z z z), [.code (C 30 [])], [], .run, false, none⟩, [], ⟨0, 2, 2, z⟩⟩
noncomputable def s1 : au := ⟨⟨30, 38, (n (m (.pure 3 (.vv 1) (q 5 0)) z (l (.int .i64 (.iv 0))) z z) z (n (l (.pure 27 (.vv 4) (q 6 0))) z z z) (n (l (.view 1)) z z z)), [.code (C 30 [1, 1, 1, 1, 1, 0, 1, 0, 0]), .inLoop (C 30 [1, 1, 1, 1, 1, 0, 1, 0, 0]), .inBlock 0, .code (C 30 [1, 1, 1, 1, 1, 1])], [], .run, false, none⟩, [], ⟨2, 7, 6, (n (l (.arr 46 (.vv 5) 0)) z z z)⟩⟩
theorem p0 : last K 30 27 [true] s0 = some ((.snoc (.snoc .emp .nil) (.aN (.ab (.vv 2)))), [.call 17 [(HM (.vv 0)), (.vv 1)], .ask (.not (.eq (.ab (.vv 2)) (.il 0)))]) := by kernel_rfl
theorem p1 : last K 30 36 [false, true] s0 = some ((.snoc (.snoc .emp .nil) (.aN (.il 7))), [.call 17 [(HM (.vv 0)), (.vv 1)], .ask (.not (.not (.eq (.ab (.vv 2)) (.il 0)))), .call 61 [(HM (.vv 0)), (.vv 1)], .ask (.eq (.ab (.vv 3)) (.il 0))]) := by kernel_rfl
theorem p2 : af K 49 [false, false] s0 s1 [] ⟨[(.il 0)], [], [(.vv 0), (.vv 1), (.vv 2), (.vv 3), (.vv 4), .nil], (Z [0, 1, 2, 3, 4, 1, 4])⟩ [(1, none)] = some (s1, [.call 17 [(HM (.vv 0)), (.vv 1)], .ask (.not (.not (.eq (.ab (.vv 2)) (.il 0)))), .call 61 [(HM (.vv 0)), (.vv 1)], .ask (.not (.eq (.ab (.vv 3)) (.il 0))), .call 19 [(HM (.vv 0)), (.vv 1)]]) := by kernel_rfl
theorem p3 : af K 30 [true] s1 s1 [] ⟨[(.add (.iv 0) (.il 1))], [], [(.vv 0), (.vv 1), (.vv 2), (.vv 3), (.vv 4), (.snoc (.vv 5) (.vv 6))], (Z [0, 1, 2, 3, 4, 5, 6])⟩ [(1, (some 3))] = some (s1, [.ask (.lt (.iv 0) (.len (.vv 1))), .ask (IB (.iv 0) (.vv 4)), .call 62 [(.get (.vv 4) (.iv 0))], .ask (.le (.add (.len (.vv 5)) (.il 1)) (.il 2932031006890)), .ask (FT (.add (.iv 0) (.il 1)))]) := by kernel_rfl
theorem p4 : last K 30 17 [false] s1 = some ((.snoc (.snoc .emp (.vv 5)) (.aN (.il 0))), [.ask (.not (.lt (.iv 0) (.len (.vv 1))))]) := by kernel_rfl
theorem b : aW prog 30 = some s0 := by kernel_rfl
end cG
end X
namespace X
open Go Go.a9 Go.Sym
namespace bX
abbrev f : Nat := 32
noncomputable def K : dj := ⟨prog, pl, [], [17, 61, 19, 20, 62], []⟩
noncomputable def s0 : au := ⟨⟨32, 66, (m (.agg [(.int .i64 (.ab (.get (.vv 0) (.il 0)))), (.pure 3 (.get (.vv 0) (.il 1)) (q 0 1)), (.pure 27 (.get (.vv 0) (.il 2)) (q 0 2)), (.pure 27 (.get (.vv 0) (.il 3)) (q 0 3))]) (l (.pure 3 (.vv 1) (q 1 0))) z z z), [.code (C 32 [])], [], .run, false, none⟩, [], ⟨0, 2, 2, z⟩⟩
noncomputable def s1 : au := ⟨⟨32, 66, (n (m (.pure 3 (.vv 1) (q 6 0)) z (l (.view 1)) z z) (m (.addr 0 0) z (l (.int .i64 (.iv 0))) z z) (n (l (.pure 27 (.vv 4) (q 10 0))) z z z) (n (l (.pure 27 (.vv 5) (q 11 0))) z z z)), [.code (C 32 [1, 1, 1, 1, 1, 0, 1, 0, 0]), .inLoop (C 32 [1, 1, 1, 1, 1, 0, 1, 0, 0]), .inBlock 0, .code (C 32 [1, 1, 1, 1, 1, 1])], [], .run, false, none⟩, [], ⟨2, 12, 7, (m (.cells [(.int .i64 (.ab (.get (.vv 0) (.il 0)))), (.pure 3 (.get (.vv 0) (.il 1)) (q 7 0)), (.pure 27 (.get (.vv 0) (.il 2)) (q 8 0)), (.pure 27 (.get (.vv 0) (.il 3)) (q 9 0))]) (l (.arr 46 (.vv 6) 0)) z z z)⟩⟩
noncomputable def s2 : au := ⟨⟨32, 66, (n (m (.pure 3 (.vv 1) (q 12 0)) z (l (.view 2)) z z) (m (.addr 0 0) z (l (.int .i64 (.iv 1))) z z) (n (l (.pure 27 (.vv 4) (q 16 0))) (l (.view 1)) z z) (n (l (.pure 27 (.vv 5) (q 17 0))) (l (.int .i64 (.iv 0))) z z)), [.code (C 32 [1, 1, 1, 1, 1, 0, 1, 0, 0, 1, 0, 0, 1, 0, 1, 0, 0]), .inLoop (C 32 [1, 1, 1, 1, 1, 0, 1, 0, 0, 1, 0, 0, 1, 0, 1, 0, 0]), .inBlock 2, .code (C 32 [1, 1, 1, 1, 1, 0, 1, 0, 0, 1, 0, 0, 1, 1]), .inBlock 1, .code (C 32 [1, 1, 1, 1, 1, 0, 1, 0, 0, 1, 1]), .inLoop (C 32 [1, 1, 1, 1, 1, 0, 1, 0, 0]), .inBlock 0, .code (C 32 [1, 1, 1, 1, 1, 1])], [], .run, false, none⟩, [], ⟨3, 18, 8, (m (.cells [(.int .i64 (.ab (.get (.vv 0) (.il 0)))), (.pure 3 (.get (.vv 0) (.il 1)) (q 13 0)), (.pure 27 (.get (.vv 0) (.il 2)) (q 14 0)), (.pure 27 (.get (.vv 0) (.il 3)) (q 15 0))]) (l (.arr 3 (.vv 6) 0)) (l (.arr 46 (.vv 7) 0)) z z)⟩⟩
theorem p0 : last K 32 27 [true] s0 = some ((.snoc (.snoc .emp .nil) (.aN (.ab (.vv 2)))), [.call 17 [(HM (.vv 0)), (.vv 1)], .ask (.not (.eq (.ab (.vv 2)) (.il 0)))]) := by kernel_rfl
theorem p1 : last K 32 36 [false, true] s0 = some ((.snoc (.snoc .emp .nil) (.aN (.il 7))), [.call 17 [(HM (.vv 0)), (.vv 1)], .ask (.not (.not (.eq (.ab (.vv 2)) (.il 0)))), .call 61 [(HM (.vv 0)), (.vv 1)], .ask (.eq (.ab (.vv 3)) (.il 0))]) := by kernel_rfl
theorem p2 : af K 53 [false, false] s0 s1 [] ⟨[(.il 0)], [], [(.vv 0), (.vv 1), (.vv 2), (.vv 3), (.vv 4), (.vv 5), .nil], [(q 0 0), (q 1 0), (q 2 0), (q 3 0), (q 4 0), (q 5 0), (q 1 0), (q 0 1), (q 0 2), (q 0 3), (q 4 0), (q 5 0)]⟩ [(0, (some 0)), (1, none)] = some (s1, [.call 17 [(HM (.vv 0)), (.vv 1)], .ask (.not (.not (.eq (.ab (.vv 2)) (.il 0)))), .call 61 [(HM (.vv 0)), (.vv 1)], .ask (.not (.eq (.ab (.vv 3)) (.il 0))), .call 19 [(HM (.vv 0)), (.vv 1)], .call 20 [(HM (.vv 0)), (.vv 1)]]) := by kernel_rfl
theorem p3 : af K 23 [true] s1 s2 [] ⟨[(.il 0), (.iv 0)], [], [(.vv 0), (.vv 1), (.vv 2), (.vv 3), (.vv 4), (.vv 5), .nil, (.vv 6)], (Z [0, 1, 2, 3, 4, 5, 6, 7, 8, 9, 10, 11, 6, 7, 8, 9, 10, 11])⟩ [(0, (some 0)), (2, (some 1)), (1, none)] = some (s2, [.ask (.lt (.iv 0) (.len (.vv 1)))]) := by kernel_rfl
theorem p4 : last K 32 17 [false] s1 = some ((.snoc (.snoc .emp (.vv 6)) (.aN (.il 0))), [.ask (.not (.lt (.iv 0) (.len (.vv 1))))]) := by kernel_rfl
theorem p5 : af K 41 [true] s2 s2 [] ⟨[(.add (.iv 0) (.il 1)), (.iv 1)], [], [(.vv 0), (.vv 1), (.vv 2), (.vv 3), (.vv 4), (.vv 5), (.snoc (.vv 6) (.aN (.mul (.ab (.get (.get (.vv 4) (.iv 1)) (.iv 0))) (.ab (.get (.get (.vv 5) (.iv 1)) (.iv 0)))))), (.vv 7)], (Z [0, 1, 2, 3, 4, 5, 6, 7, 8, 9, 10, 11, 12, 13, 14, 15, 16, 17])⟩ [(0, (some 0)), (2, (some 2)), (1, (some 4))] = some (s2, [.ask (.lt (.iv 0) (.len (.get (.vv 0) (.il 1)))), .ask (IB (.iv 1) (.vv 4)), .ask (IB (.iv 0) (.get (.vv 4) (.iv 1))), .ask (IB (.iv 1) (.vv 5)), .ask (IB (.iv 0) (.get (.vv 5) (.iv 1))), .ask (FT (.mul (.ab (.get (.get (.vv 4) (.iv 1)) (.iv 0))) (.ab (.get (.get (.vv 5) (.iv 1)) (.iv 0))))), .ask (.le (.add (.len (.vv 6)) (.il 1)) (.il 8796093021696)), .ask (FT (.add (.iv 0) (.il 1)))]) := by kernel_rfl
theorem p6 : af K 26 [false] s2 s1 [] ⟨[(.add (.iv 1) (.il 1))], [], [(.vv 0), (.vv 1), (.vv 2), (.vv 3), (.vv 4), (.vv 5), (.snoc (.vv 7) (.vv 8))], (Z [0, 1, 2, 3, 4, 5, 12, 13, 14, 15, 16, 17])⟩ [(0, (some 0)), (1, (some 4))] = some (s1, [.ask (.not (.lt (.iv 0) (.len (.get (.vv 0) (.il 1))))), .call 62 [(.vv 6)], .ask (.le (.add (.len (.vv 7)) (.il 1)) (.il 2932031006890)), .ask (FT (.add (.iv 1) (.il 1)))]) := by kernel_rfl
theorem b : aW prog 32 = some s0 := by kernel_rfl
end bX
end X
namespace X
open Go Go.a9 Go.Sym
namespace pX
abbrev f : Nat := 18
noncomputable def K : dj := ⟨prog, pl, [], [51], []⟩
noncomputable def s0 : au := ⟨⟨18, 27, (m (.pure 27 (.vv 0) (q 0 0)) (l (.pure 27 (.vv 1) (q 1 0))) z z z), [.code (C 18 [])], [], .run, false, none⟩, [], ⟨0, 2, 2, z⟩⟩
noncomputable def s1 : au := ⟨⟨18, 27, (m (.pure 27 (.vv 0) (q 2 0)) (m (.pure 27 (.vv 1) (q 3 0)) (l (.int .i64 (.iv 0))) z z z) z z z), [.code (C 18 [1, 1, 0, 1, 0, 0]), .inLoop (C 18 [1, 1, 0, 1, 0, 0]), .inBlock 0, .code (C 18 [1, 1, 1])], [], .run, false, none⟩, [], ⟨0, 4, 2, z⟩⟩
theorem b : aW prog 18 = some s0 := by kernel_rfl
end pX
end X
namespace X
open Go Go.a9 Go.Sym
namespace m6
abbrev f : Nat := 23
noncomputable def K : dj := ⟨prog, pl, [], [], []⟩
noncomputable def s0 : au := ⟨⟨23, 26, (m (.pure 53 (.vv 0) (q 0 0)) (l (.pure 53 (.vv 1) (q 1 0))) z z z), [.code (C 23 [])], [], .run, false, none⟩, [], ⟨0, 2, 2, z⟩⟩
noncomputable def s1 : au := ⟨⟨23, 26, (m (.pure 53 (.vv 0) (q 2 0)) (m (.pure 53 (.vv 1) (q 3 0)) (l (.int .i64 (.iv 0))) z z z) z z z), [.code (C 23 [1, 1, 0, 1, 0, 0]), .inLoop (C 23 [1, 1, 0, 1, 0, 0]), .inBlock 0, .code (C 23 [1, 1, 1])], [], .run, false, none⟩, [], ⟨0, 4, 2, z⟩⟩
theorem p1 : af K 22 [false] s0 s1 [] ⟨[(.il 0)], [], [(.vv 0), (.vv 1)], (Z [0, 1, 0, 1])⟩ [] = some (s1, [.ask (.not (.not (.eq (.len (.vv 0)) (.len (.vv 1)))))]) := by kernel_rfl
theorem p3 : af K 33 [true, false] s1 s1 [] ⟨[(.add (.iv 0) (.il 1))], [], [(.vv 0), (.vv 1)], (Z [0, 1, 2, 3])⟩ [] = some (s1, [.ask (.lt (.iv 0) (.len (.vv 0))), .ask (IB (.iv 0) (.vv 0)), .ask (IB (.iv 0) (.vv 1)), .ask (.not (.not (.and (.eq (.ab (.get (.get (.vv 0) (.iv 0)) (.il 0))) (.ab (.get (.get (.vv 1) (.iv 0)) (.il 0)))) (.eq (.ab (.get (.get (.vv 0) (.iv 0)) (.il 1))) (.ab (.get (.get (.vv 1) (.iv 0)) (.il 1))))))), .ask (FT (.add (.iv 0) (.il 1)))]) := by kernel_rfl
theorem p4 : last K 23 15 [false] s1 = some ((.gN (.bl true)), [.ask (.not (.lt (.iv 0) (.len (.vv 0))))]) := by kernel_rfl
theorem b : aW prog 23 = some s0 := by kernel_rfl
end m6
end X
namespace X
open Go Go.a9 Go.Sym
namespace fG
abbrev f : Nat := 33
noncomputable def K : dj := ⟨prog, pl, [], [23], []⟩
noncomputable def s0 : au := ⟨⟨33, 27, (m (.pure 46 (.vv 0) (q 0 0)) (l (.pure 46 (.vv 1) (q 1 0))) z z z), [.code (C 33 [])], [], .run, false, none⟩, [], ⟨0, 2, 2, z⟩⟩
noncomputable def s1 : au := ⟨⟨33, 27, (m (.pure 46 (.vv 0) (q 2 0)) (m (.pure 46 (.vv 1) (q 3 0)) (l (.int .i64 (.iv 0))) z z z) z z z), [.code (C 33 [1, 1, 0, 1, 0, 0]), .inLoop (C 33 [1, 1, 0, 1, 0, 0]), .inBlock 0, .code (C 33 [1, 1, 1])], [], .run, false, none⟩, [], ⟨0, 4, 2, z⟩⟩
theorem p1 : af K 22 [false] s0 s1 [] ⟨[(.il 0)], [], [(.vv 0), (.vv 1)], (Z [0, 1, 0, 1])⟩ [] = some (s1, [.ask (.not (.not (.eq (.len (.vv 0)) (.len (.vv 1)))))]) := by kernel_rfl
theorem p3 : af K 34 [true, false] s1 s1 [] ⟨[(.add (.iv 0) (.il 1))], [], [(.vv 0), (.vv 1)], (Z [0, 1, 2, 3])⟩ [] = some (s1, [.ask (.lt (.iv 0) (.len (.vv 0))), .ask (IB (.iv 0) (.vv 0)), .ask (IB (.iv 0) (.vv 1)), .call 23 [(.get (.vv 0) (.iv 0)), (.get (.vv 1) (.iv 0))], .ask (.not (.not (.eI (.vv 2)))), .ask (FT (.add (.iv 0) (.il 1)))]) := by kernel_rfl
theorem p4 : last K 33 15 [false] s1 = some ((.gN (.bl true)), [.ask (.not (.lt (.iv 0) (.len (.vv 0))))]) := by kernel_rfl
theorem b : aW prog 33 = some s0 := by kernel_rfl
end fG
end X
namespace X
open Go Go.a9 Go.Sym
namespace HiddenKnows
abbrev f : Nat := 6
noncomputable def K : dj := ⟨prog, pl, [], [10, 11, 14, 25, 28, 29, 30, 31, 32, 33], []⟩
noncomputable def s0 : au := ⟨⟨6, 113, (m (.agg [(.int .u8 (.ab (.get (.vv 0) (.il 0)))), (.int .u8 (.ab (.get (.vv 0) (.il 1)))), (.int .u8 (.ab (.get (.vv 0) (.il 2)))), (.pure 5 (.get (.vv 0) (.il 3)) (q 0 3)), (.pure 5 (.get (.vv 0) (.il 4)) (q 0 4))]) (l (.agg [(.int .u8 (.ab (.get (.vv 1) (.il 0)))), (.int .u8 (.ab (.get (.vv 1) (.il 1)))), (.int .u8 (.ab (.get (.vv 1) (.il 2)))), (.int .i64 (.ab (.get (.vv 1) (.il 3))))])) (l (.agg [(.int .i64 (.ab (.get (.vv 2) (.il 0)))), (.pure 3 (.get (.vv 2) (.il 1)) (q 2 1)), (.pure 27 (.get (.vv 2) (.il 2)) (q 2 2)), (.pure 27 (.get (.vv 2) (.il 3)) (q 2 3))])) (l (.pure 3 (.vv 3) (q 3 0))) z), [.code (C 6 [])], [], .run, false, none⟩, [], ⟨0, 4, 4, z⟩⟩
noncomputable def s1 : au := ⟨⟨6, 113, (n z (n z z (n (l (.agg [(.int .i64 (.ab (.get (.get (.vv 5) (.il 0)) (.il 0)))), (.pure 3 (.get (.get (.vv 5) (.il 0)) (.il 1)) (q 9 0)), (.pure 27 (.get (.get (.vv 5) (.il 0)) (.il 2)) (q 10 0)), (.pure 27 (.get (.get (.vv 5) (.il 0)) (.il 3)) (q 11 0)), (.int .i64 (.ab (.get (.get (.vv 5) (.il 1)) (.il 0)))), (.pure 3 (.get (.get (.vv 5) (.il 1)) (.il 1)) (q 12 0)), (.pure 27 (.get (.get (.vv 5) (.il 1)) (.il 2)) (q 13 0)), (.pure 27 (.get (.get (.vv 5) (.il 1)) (.il 3)) (q 14 0)), (.int .i64 (.ab (.get (.get (.vv 5) (.il 2)) (.il 0)))), (.pure 3 (.get (.get (.vv 5) (.il 2)) (.il 1)) (q 15 0)), (.pure 27 (.get (.get (.vv 5) (.il 2)) (.il 2)) (q 16 0)), (.pure 27 (.get (.get (.vv 5) (.il 2)) (.il 3)) (q 17 0))])) z z z) z) (m (.pure 3 (.vv 3) (q 6 0)) z z (n (l (.int .i64 (.iv 0))) z z z) z) (l (.addr 0 0))), [.code (C 6 [1, 1, 0, 1, 0, 0]), .inLoop (C 6 [1, 1, 0, 1, 0, 0]), .inBlock 0, .code (C 6 [1, 1, 1])], [], .run, false, none⟩, [], ⟨3, 18, 6, (l (.cells [(.int .u8 (.ab (.get (.vv 0) (.il 0)))), (.int .u8 (.ab (.get (.vv 0) (.il 1)))), (.int .u8 (.ab (.get (.vv 0) (.il 2)))), (.pure 5 (.get (.vv 0) (.il 3)) (q 7 0)), (.pure 5 (.get (.vv 0) (.il 4)) (q 8 0))]))⟩⟩
noncomputable def s2 : au := ⟨⟨6, 113, (n (n z (n z (l (.agg [(.pure 3 (.vv 6) (q 34 0)), (.pure 3 (.cut (.vv 3) (.il 0) (.min (.len (.vv 3)) (.il 10))) (q 35 0))])) z z) z z) (n z (m (.addr 3 0) z (l (.int .i64 (.iv 0))) z z) (n (l (.agg [(.int .i64 (.ab (.get (.get (.vv 5) (.il 0)) (.il 0)))), (.pure 3 (.get (.get (.vv 5) (.il 0)) (.il 1)) (q 25 0)), (.pure 27 (.get (.get (.vv 5) (.il 0)) (.il 2)) (q 26 0)), (.pure 27 (.get (.get (.vv 5) (.il 0)) (.il 3)) (q 27 0)), (.int .i64 (.ab (.get (.get (.vv 5) (.il 1)) (.il 0)))), (.pure 3 (.get (.get (.vv 5) (.il 1)) (.il 1)) (q 28 0)), (.pure 27 (.get (.get (.vv 5) (.il 1)) (.il 2)) (q 29 0)), (.pure 27 (.get (.get (.vv 5) (.il 1)) (.il 3)) (q 30 0)), (.int .i64 (.ab (.get (.get (.vv 5) (.il 2)) (.il 0)))), (.pure 3 (.get (.get (.vv 5) (.il 2)) (.il 1)) (q 31 0)), (.pure 27 (.get (.get (.vv 5) (.il 2)) (.il 2)) (q 32 0)), (.pure 27 (.get (.get (.vv 5) (.il 2)) (.il 3)) (q 33 0))])) z z z) z) (m (.pure 3 (.vv 3) (q 19 0)) z z (n (l (.int .i64 (.iv 2))) z z z) z) (l (.addr 0 0))), [.code (C 6 [1, 1, 0, 1, 0, 0, 1, 1, 0, 0, 1, 1, 0, 0]), .inLoop (C 6 [1, 1, 0, 1, 0, 0, 1, 1, 0, 0, 1, 1, 0, 0]), .inBlock 2, .inBlock 1, .code (C 6 [1, 1, 0, 1, 0, 0, 1, 1, 1]), .inLoop (C 6 [1, 1, 0, 1, 0, 0]), .inBlock 0, .code (C 6 [1, 1, 1])], [], .run, false, none⟩, [], ⟨4, 36, 10, (m (.cells [(.int .u8 (.ab (.get (.vv 0) (.il 0)))), (.int .u8 (.ab (.get (.vv 0) (.il 1)))), (.int .u8 (.ab (.get (.vv 0) (.il 2)))), (.pure 5 (.get (.vv 0) (.il 3)) (q 20 0)), (.pure 5 (.get (.vv 0) (.il 4)) (q 21 0))]) z z (l (.cells [(.int .i64 (.iv 1)), (.pure 3 (.vv 7) (q 22 0)), (.pure 27 (.vv 8) (q 23 0)), (.pure 27 (.vv 9) (q 24 0))])) z)⟩⟩
theorem p1 : af K 26 [false] s0 s1 [] ⟨[(.il 0)], [], [(.vv 0), (.vv 1), (.vv 2), (.vv 3), (.vv 4), (.vv 5)], [(q 0 0), (q 1 0), (q 2 0), (q 3 0), (q 4 0), (q 5 0), (q 3 0), (q 0 3), (q 0 4), (q 5 1), (q 5 2), (q 5 3), (q 5 5), (q 5 6), (q 5 7), (q 5 9), (q 5 10), (q 5 11)]⟩ [(0, (some 0))] = some (s1, [.call 10 [], .ask (.not (.not (.eI (.vv 4)))), .call 11 [(.snoc (.snoc (.snoc (.snoc (.snoc .emp (.aN (.ab (.get (.vv 0) (.il 0))))) (.aN (.ab (.get (.vv 0) (.il 1))))) (.aN (.ab (.get (.vv 0) (.il 2))))) (.get (.vv 0) (.il 3))) (.get (.vv 0) (.il 4))), (.snoc (.snoc (.snoc (.snoc .emp (.aN (.ab (.get (.vv 1) (.il 0))))) (.aN (.ab (.get (.vv 1) (.il 1))))) (.aN (.ab (.get (.vv 1) (.il 2))))) (.aN (.ab (.get (.vv 1) (.il 3))))), (HM (.vv 2))]]) := by kernel_rfl
theorem p2 : af K 30 [true, true] s1 s2 [] ⟨[(.il 0), (.ab (.get (.get (.vv 5) (.il 0)) (.il 0))), (.il 0)], [], [(.vv 0), (.vv 1), (.vv 2), (.vv 3), (.vv 4), (.vv 5), (.vv 6), (.get (.get (.vv 5) (.il 0)) (.il 1)), (.get (.get (.vv 5) (.il 0)) (.il 2)), (.get (.get (.vv 5) (.il 0)) (.il 3))], [(q 0 0), (q 1 0), (q 2 0), (q 3 0), (q 4 0), (q 5 0), (q 6 0), (q 7 0), (q 8 0), (q 9 0), (q 10 0), (q 11 0), (q 12 0), (q 13 0), (q 14 0), (q 15 0), (q 16 0), (q 17 0), (q 18 0), (q 6 0), (q 7 0), (q 8 0), (q 9 0), (q 10 0), (q 11 0), (q 9 0), (q 10 0), (q 11 0), (q 12 0), (q 13 0), (q 14 0), (q 15 0), (q 16 0), (q 17 0), (q 18 0), (.sub (q 6 0) (.il 0) (.min (.len (.vv 3)) (.il 10)) 1)]⟩ [(0, (some 0)), (3, (some 3))] = some (s2, [.ask (.lt (.iv 0) (.il 3)), .ask (.eq (.iv 0) (.il 0)), .ask (.le (.il 0) (.min (.len (.vv 3)) (.il 10))), .ask (.le (.min (.len (.vv 3)) (.il 10)) (.len (.vv 3))), .call 14 [(.snoc (.snoc (.snoc (.snoc (.snoc .emp (.aN (.ab (.get (.vv 0) (.il 0))))) (.aN (.ab (.get (.vv 0) (.il 1))))) (.aN (.ab (.get (.vv 0) (.il 2))))) (.get (.vv 0) (.il 3))) (.get (.vv 0) (.il 4)))], .ask (.le (.il 0) (.min (.len (.vv 3)) (.il 10))), .ask (.le (.min (.len (.vv 3)) (.il 10)) (.len (.vv 3)))]) := by kernel_rfl
theorem p3 : af K 30 [true, false, true] s1 s2 [] ⟨[(.il 0), (.ab (.get (.get (.vv 5) (.il 1)) (.il 0))), (.il 1)], [], [(.vv 0), (.vv 1), (.vv 2), (.vv 3), (.vv 4), (.vv 5), (.vv 6), (.get (.get (.vv 5) (.il 1)) (.il 1)), (.get (.get (.vv 5) (.il 1)) (.il 2)), (.get (.get (.vv 5) (.il 1)) (.il 3))], [(q 0 0), (q 1 0), (q 2 0), (q 3 0), (q 4 0), (q 5 0), (q 6 0), (q 7 0), (q 8 0), (q 9 0), (q 10 0), (q 11 0), (q 12 0), (q 13 0), (q 14 0), (q 15 0), (q 16 0), (q 17 0), (q 18 0), (q 6 0), (q 7 0), (q 8 0), (q 12 0), (q 13 0), (q 14 0), (q 9 0), (q 10 0), (q 11 0), (q 12 0), (q 13 0), (q 14 0), (q 15 0), (q 16 0), (q 17 0), (q 18 0), (.sub (q 6 0) (.il 0) (.min (.len (.vv 3)) (.il 10)) 1)]⟩ [(0, (some 0)), (3, (some 3))] = some (s2, [.ask (.lt (.iv 0) (.il 3)), .ask (.not (.eq (.iv 0) (.il 0))), .ask (.eq (.iv 0) (.il 1)), .ask (.le (.il 0) (.min (.len (.vv 3)) (.il 10))), .ask (.le (.min (.len (.vv 3)) (.il 10)) (.len (.vv 3))), .call 14 [(.snoc (.snoc (.snoc (.snoc (.snoc .emp (.aN (.ab (.get (.vv 0) (.il 0))))) (.aN (.ab (.get (.vv 0) (.il 1))))) (.aN (.ab (.get (.vv 0) (.il 2))))) (.get (.vv 0) (.il 3))) (.get (.vv 0) (.il 4)))], .ask (.le (.il 0) (.min (.len (.vv 3)) (.il 10))), .ask (.le (.min (.len (.vv 3)) (.il 10)) (.len (.vv 3)))]) := by kernel_rfl
theorem p4 : af K 30 [true, false, false, true] s1 s2 [] ⟨[(.il 0), (.ab (.get (.get (.vv 5) (.il 2)) (.il 0))), (.il 2)], [], [(.vv 0), (.vv 1), (.vv 2), (.vv 3), (.vv 4), (.vv 5), (.vv 6), (.get (.get (.vv 5) (.il 2)) (.il 1)), (.get (.get (.vv 5) (.il 2)) (.il 2)), (.get (.get (.vv 5) (.il 2)) (.il 3))], [(q 0 0), (q 1 0), (q 2 0), (q 3 0), (q 4 0), (q 5 0), (q 6 0), (q 7 0), (q 8 0), (q 9 0), (q 10 0), (q 11 0), (q 12 0), (q 13 0), (q 14 0), (q 15 0), (q 16 0), (q 17 0), (q 18 0), (q 6 0), (q 7 0), (q 8 0), (q 15 0), (q 16 0), (q 17 0), (q 9 0), (q 10 0), (q 11 0), (q 12 0), (q 13 0), (q 14 0), (q 15 0), (q 16 0), (q 17 0), (q 18 0), (.sub (q 6 0) (.il 0) (.min (.len (.vv 3)) (.il 10)) 1)]⟩ [(0, (some 0)), (3, (some 3))] = some (s2, [.ask (.lt (.iv 0) (.il 3)), .ask (.not (.eq (.iv 0) (.il 0))), .ask (.not (.eq (.iv 0) (.il 1))), .ask (.eq (.iv 0) (.il 2)), .ask (.le (.il 0) (.min (.len (.vv 3)) (.il 10))), .ask (.le (.min (.len (.vv 3)) (.il 10)) (.len (.vv 3))), .call 14 [(.snoc (.snoc (.snoc (.snoc (.snoc .emp (.aN (.ab (.get (.vv 0) (.il 0))))) (.aN (.ab (.get (.vv 0) (.il 1))))) (.aN (.ab (.get (.vv 0) (.il 2))))) (.get (.vv 0) (.il 3))) (.get (.vv 0) (.il 4)))], .ask (.le (.il 0) (.min (.len (.vv 3)) (.il 10))), .ask (.le (.min (.len (.vv 3)) (.il 10)) (.len (.vv 3)))]) := by kernel_rfl
theorem p5 : last K 6 12 [false] s1 = some ((.gN (.bl true)), [.ask (.not (.lt (.iv 0) (.il 3)))]) := by kernel_rfl
theorem EB : af K 124 [true, true, false, false, false, false, false, false] s2 s2 [] ⟨[(.il 1), (.iv 1), (.iv 2)], [], [(.vv 0), (.vv 1), (.vv 2), (.vv 3), (.vv 4), (.vv 5), (.vv 6), (.vv 7), (.vv 8), (.vv 9)], (Z [0, 1, 2, 3, 4, 5, 6, 7, 8, 9, 10, 11, 12, 13, 14, 15, 16, 17, 18, 19, 20, 21, 22, 23, 24, 25, 26, 27, 28, 29, 30, 31, 32, 33, 34, 35])⟩ [(0, (some 0)), (3, (some 3))] = some (s2, [.ask (.lt (.iv 0) (.il 2)), .ask (.eq (.iv 0) (.il 0)), .call 25 [(.snoc (.snoc (.snoc (.snoc .emp (.aN (.iv 1))) (.vv 7)) (.vv 8)) (.vv 9)), (.vv 6)], .call 28 [(.snoc (.snoc (.snoc (.snoc .emp (.aN (.iv 1))) (.vv 7)) (.vv 8)) (.vv 9)), (.vv 6)], .call 29 [(.snoc (.snoc (.snoc (.snoc .emp (.aN (.iv 1))) (.vv 7)) (.vv 8)) (.vv 9)), (.vv 6)], .call 30 [(.snoc (.snoc (.snoc (.snoc .emp (.aN (.iv 1))) (.vv 7)) (.vv 8)) (.vv 9)), (.vv 6)], .call 31 [(.snoc (.snoc (.snoc (.snoc .emp (.aN (.iv 1))) (.vv 7)) (.vv 8)) (.vv 9)), (.vv 6)], .call 32 [(.snoc (.snoc (.snoc (.snoc .emp (.aN (.iv 1))) (.vv 7)) (.vv 8)) (.vv 9)), (.vv 6)], .ask (.not (.not (.and (.eq (.ab (.get (.get (.vv 10) (.il 0)) (.il 0))) (.ab (.get (.get (.vv 11) (.il 0)) (.il 0)))) (.eq (.ab (.get (.get (.vv 10) (.il 0)) (.il 1))) (.ab (.get (.get (.vv 11) (.il 0)) (.il 1))))))), .ask (.not (.not (.eq (.ab (.get (.vv 10) (.il 1))) (.ab (.get (.vv 11) (.il 1)))))), .ask (.not (.not (.eq (.ab (.get (.vv 12) (.il 1))) (.ab (.get (.vv 13) (.il 1)))))), .ask (.not (.not (.eq (.ab (.get (.vv 14) (.il 1))) (.ab (.get (.vv 15) (.il 1)))))), .call 33 [(.get (.vv 12) (.il 0)), (.get (.vv 13) (.il 0))], .ask (.not (.not (.eI (.vv 16)))), .call 33 [(.get (.vv 14) (.il 0)), (.get (.vv 15) (.il 0))], .ask (.not (.not (.eI (.vv 17))))]) := by kernel_rfl
theorem EP : af K 124 [true, false, true, false, false, false, false, false, false] s2 s2 [] ⟨[(.il 2), (.iv 1), (.iv 2)], [], [(.vv 0), (.vv 1), (.vv 2), (.vv 3), (.vv 4), (.vv 5), (.vv 6), (.vv 7), (.vv 8), (.vv 9)], (Z [0, 1, 2, 3, 4, 5, 6, 7, 8, 9, 10, 11, 12, 13, 14, 15, 16, 17, 18, 19, 20, 21, 22, 23, 24, 25, 26, 27, 28, 29, 30, 31, 32, 33, 34, 35])⟩ [(0, (some 0)), (3, (some 3))] = some (s2, [.ask (.lt (.iv 0) (.il 2)), .ask (.not (.eq (.iv 0) (.il 0))), .ask (.eq (.iv 0) (.il 1)), .call 25 [(.snoc (.snoc (.snoc (.snoc .emp (.aN (.iv 1))) (.vv 7)) (.vv 8)) (.vv 9)), (.cut (.vv 3) (.il 0) (.min (.len (.vv 3)) (.il 10)))], .call 28 [(.snoc (.snoc (.snoc (.snoc .emp (.aN (.iv 1))) (.vv 7)) (.vv 8)) (.vv 9)), (.cut (.vv 3) (.il 0) (.min (.len (.vv 3)) (.il 10)))], .call 29 [(.snoc (.snoc (.snoc (.snoc .emp (.aN (.iv 1))) (.vv 7)) (.vv 8)) (.vv 9)), (.cut (.vv 3) (.il 0) (.min (.len (.vv 3)) (.il 10)))], .call 30 [(.snoc (.snoc (.snoc (.snoc .emp (.aN (.iv 1))) (.vv 7)) (.vv 8)) (.vv 9)), (.cut (.vv 3) (.il 0) (.min (.len (.vv 3)) (.il 10)))], .call 31 [(.snoc (.snoc (.snoc (.snoc .emp (.aN (.iv 1))) (.vv 7)) (.vv 8)) (.vv 9)), (.cut (.vv 3) (.il 0) (.min (.len (.vv 3)) (.il 10)))], .call 32 [(.snoc (.snoc (.snoc (.snoc .emp (.aN (.iv 1))) (.vv 7)) (.vv 8)) (.vv 9)), (.cut (.vv 3) (.il 0) (.min (.len (.vv 3)) (.il 10)))], .ask (.not (.not (.and (.eq (.ab (.get (.get (.vv 10) (.il 0)) (.il 0))) (.ab (.get (.get (.vv 11) (.il 0)) (.il 0)))) (.eq (.ab (.get (.get (.vv 10) (.il 0)) (.il 1))) (.ab (.get (.get (.vv 11) (.il 0)) (.il 1))))))), .ask (.not (.not (.eq (.ab (.get (.vv 10) (.il 1))) (.ab (.get (.vv 11) (.il 1)))))), .ask (.not (.not (.eq (.ab (.get (.vv 12) (.il 1))) (.ab (.get (.vv 13) (.il 1)))))), .ask (.not (.not (.eq (.ab (.get (.vv 14) (.il 1))) (.ab (.get (.vv 15) (.il 1)))))), .call 33 [(.get (.vv 12) (.il 0)), (.get (.vv 13) (.il 0))], .ask (.not (.not (.eI (.vv 16)))), .call 33 [(.get (.vv 14) (.il 0)), (.get (.vv 15) (.il 0))], .ask (.not (.not (.eI (.vv 17))))]) := by kernel_rfl
theorem EO : af K 13 [false] s2 s1 [] ⟨[(.add (.iv 2) (.il 1))], [], [(.vv 0), (.vv 1), (.vv 2), (.vv 3), (.vv 4), (.vv 5)], (Z [0, 1, 2, 3, 4, 5, 19, 20, 21, 25, 26, 27, 28, 29, 30, 31, 32, 33])⟩ [(0, (some 0))] = some (s1, [.ask (.not (.lt (.iv 0) (.il 2))), .ask (FT (.add (.iv 2) (.il 1)))]) := by kernel_rfl
theorem b : aW prog 6 = some s0 := by kernel_rfl
end HiddenKnows
end X
namespace X
end X
namespace Go.Sym
open Go Go.a9
open Go.RowKit (Below)
theorem bL.grow {μ : Mu} {I : fu} {w0 w w' : World} {h : ah} (W : bL μ I w0 h w) (b : Below w.heap.size w w') : bL μ I w0 h w' := by
 refine ⟨W.below.trans (b.mono W.below.size), W.live, fun c B o N e => ?_, fun c ob B o N e m => ?_, W.inj, fun B o v e => ?_⟩
 ·obtain ⟨h1, h2, h3⟩ := W.mapped c B o N e
  exact ⟨h1, Nat.lt_of_lt_of_le h2 b.size, h3⟩
 ·obtain ⟨obj, h1, h2⟩ := W.bj c ob B o N e m
  exact ⟨obj, by rw [b.block _ (W.mapped c B o N m).2.1]; exact h1, h2⟩
 ·obtain ⟨h1, _, h3⟩ := W.wc B o v e
  refine ⟨?_, rfl, h3⟩
  have hlt : B < w.heap.size := by
   apply Decidable.byContradiction
   intro hq
   have hno : w.heap[B]? = none := Array.getElem?_eq_none (by omega)
   simp [World.cell?, hno] at h1
  have := b.cell (p := ⟨B, o, none⟩) hlt
  rw [this]; exact h1
noncomputable def xJ (P : Program) (f : FuncId) (t : Tmp) (b : Bool) (m : bc) : Bool :=
 match m.callers, m.fr.mode, m.fr.defers, m.fr.roundOf with
 | [], .returning, [], none => Nat.beq m.fr.fn f && !m.fr.deferred && (match m.fr.tm.get t with | some (.bool c) => c == b | _ => false)
 | _, _, _, _ => false
noncomputable def BZ (f nt t : Nat) (b : Bool) : ak := { fn := f, nt, tm := Tr.nil.set t (.bool b), todo := [], defers := [], mode := .returning, deferred := false, roundOf := none }
theorem vD {P : Program} {f : FuncId} {g : ak} {m : bc} {t : Tmp} {b : Bool} (hg : enter P f [] false = some g) (h1 : bP P ⟨g, [], ⟨0, .nil⟩⟩ m) (h2 : xJ P f t b m = true) (h : ah) (callers : List ak) :
  bP P ⟨g, callers, h⟩ ⟨BZ f m.fr.nt t b, callers, h⟩ := by
 intro I _ w0 μ c cs tl w r
 obtain ⟨⟨lo, hlo, hF, hS⟩, hW⟩ := r
 simp only at hlo hF hS hW
 unfold enter at hg
 split at hg
 case h_2 => cases hg
 rename_i fn hfn
 split at hg
 case h_2 => cases hg
 rename_i body hb
 obtain ⟨_, hg⟩ := aj hg
 cases hg
 -- the frame, alone
 have hcm : c.mode = .run /\ eB P μ I h true lo h.next [.code body] (enter.fc .nil 0 []) c.todo c.tmps := by
  have := hF.st
  cases this with | run a b => exact ⟨a, b⟩
 have htd : c.todo = [.code body] := by
  have h := hcm.2
  generalize c.todo = ct at h
  generalize c.tmps = cm at h
  cases h with
  | plain a b =>
   cases a with
   | cons x y =>
    cases y
    cases x
    rfl
 have hround : c.roundOf = none := by
  have h := hF.round
  generalize c.roundOf = cr at h
  simp only at h
  cases h; rfl
 have hdef : c.defers = [] := by
  have h := hF.defers
  generalize c.defers = cd at h
  simp only at h
  cases h; rfl
 have r0 : oS P (fun _ => none) I w ⟨{ fn := f, nt := fn.ntmps, tm := enter.fc .nil 0 [], todo := [.code body], defers := [], mode := .run, deferred := false, roundOf := none }, [], ⟨0, .nil⟩⟩ c [] w := by
  refine ⟨⟨0, Nat.le_refl _, ⟨hF.fn, hF.has, hF.kind, ?_, ?_, hF.size, ?_⟩, .nil⟩, tX w fun B o v e => (hW.wc B o v e).1⟩
  ·rw [hround]; exact .none
  ·rw [hdef]; exact .nil
  ·refine .run hcm.1 ?_
   rw [htd]
   exact .plain (.cons (.code _) .nil) (fun t v e => by rw [enter.fc, Tr.get_nil] at e; cases e)
 obtain ⟨μ', c', cs', w', s, ⟨⟨lo', hlo', hF', hS'⟩, hW'⟩⟩ := h1 I w _ c [] (cs ++ tl) w r0
 unfold xJ at h2
 split at h2
 case h_2 => cases h2
 rename_i hc hm hd hro
 simp only [Bool.and_eq_true, Bool.not_eq_true'] at h2
 obtain ⟨⟨k1, k2⟩, k3⟩ := h2
 have k1 := aq k1
 rw [hc] at hS'
 cases hS'
 refine ⟨μ, c', cs, w', by simpa using s, ⟨⟨lo, hlo, ⟨?_, ⟨fn, hfn⟩, ?_, ?_, ?_, hF'.size, ?_⟩, hS⟩, bL.grow hW hW'.below⟩⟩
 ·rw [hF'.fn, k1]; rfl
 ·rw [hF'.kind, k2]; rfl
 ·have h := hF'.round
  rw [hro] at h
  generalize c'.roundOf = cr at h
  cases h
  exact .none
 ·have h := hF'.defers
  rw [hd] at h
  generalize c'.defers = cd at h
  cases h; exact .nil
 ·have hst := hF'.st
  rw [hm] at hst
  cases hst with
  | ret a z =>
   refine .ret a ?_
   intro t' v e
   simp only [BZ] at e
   rw [Tr.aP, Tr.get_nil] at e
   split at e
   ·rename_i ht
    cases e
    subst ht
    split at k3
    ·rename_i c2 hq
     have hv := z _ _ hq
     have : c2 = b := by simpa using k3
     subst this
     generalize c'.tmps.getD t' undef = u at hv
     cases hv
     exact .bool _
    ·cases k3
   ·cases e
theorem AQ {P : Program} {f : FuncId} {g : ak} {m : bc} {t : Tmp} {b : Bool} (hg : enter P f [] false = some g) (h1 : bP P ⟨g, [], ⟨0, .nil⟩⟩ m) (h2 : xJ P f t b m = true)
  (hs : (match P.funcs[f]? with | some fn => (match fn.params.toList, fn.resultTypes.toList, fn.results.toList with | [], [rt], [.tmp t'] => Nat.beq t' t && decide (aA P rt = some 1) && (match P.underlying rt with | some .bool => true | _ => false) | _, _, _ => false) | none => false) = true) : Fn P f [] (.bool b) := by
 intro h S as_ fn hfn hS hno ga
 rw [hfn] at hs
 simp only at hs
 split at hs
 case h_2 => cases hs
 rename_i rt t' hp hr hres
 simp only [Bool.and_eq_true, decide_eq_true_eq] at hs
 obtain ⟨⟨e1, e2⟩, e3⟩ := hs
 have e1 := aq e1
 subst e1
 rw [hp] at ga
 cases ga
 split at e3
 case h_2 => cases e3
 rename_i hu
 refine ⟨g, hg, fun callers => ⟨BZ f m.fr.nt t' b, h, [.bool b], Nat.le_refl _, fun _ _ => rfl, hno, ?_, rfl, rfl, rfl, rfl, ?_, vD hg h1 h2 h callers⟩⟩
 ·rw [hr]
  exact ⟨_, rfl, [.bool b], ⟨e2, by rw [hu]; exact ⟨b, rfl, rfl⟩⟩, .inr ⟨by simp [bB, hu], rfl⟩⟩
 ·rw [hres]
  have : bJ (BZ f m.fr.nt t' b).tm t' = .bool b := by
   simp only [BZ, bJ]
   rw [Tr.aP]; simp
  simp [bq, this]
end Go.Sym
namespace Go.a9
open Go.ChangeShapes Go.WideShapes
open Go.RowKit (Below)
end Go.a9
namespace Go.Sym
open Go Go.a9
open Go.RowKit (Below)
def WT (P : Program) : Nat -> TypeId -> V -> Prop
 | 0, _, _ => False
 | d + 1, t, x => match P.underlying t with
  | some (.int k) => ∃ n, x = .int n /\ k.min <= n /\ n <= k.max
  | some .bool => ∃ b, x = .bool b
  | some .string => ∃ s, x = .str s
  | some (.slice et) => x = .nil \/ ∃ l, x = .list l /\ l.length <= Go.maxLen /\ ∀ y ∈ l, WT P d et y
  | some (.struct fields) => ∃ xs, x = .list xs /\ xs.length = fields.toList.length /\ ∀ (i : Nat) f y, fields.toList[i]? = some f -> xs[i]? = some y -> WT P d f.type y
  | some (.array n et) => ∃ xs, x = .list xs /\ xs.length = n /\ ∀ y ∈ xs, WT P d et y
  | _ => False
inductive Dl (P : Program) : List TypeId -> List V -> Prop
 | nil : Dl P [] []
 | cons {t : TypeId} {x : V} {ts : List TypeId} {xs : List V} : WT P deep t x -> Dl P ts xs -> Dl P (t :: ts) (x :: xs)
def qP (P : Program) : Nat -> TypeId -> Bool
 | 0, _ => false
 | d + 1, t => match aA P t with
  | none => false
  | some n => match P.underlying t with
   | some (.int _) | some .bool | some .string => Nat.beq n 1
   | some (.slice et) => Nat.beq n 1 && (match aA P et with | some (_ + 1) => true | _ => false) && qP P d et
   | some (.struct fields) => decide (tight P fields.toList 0 = some n) && fields.toList.all fun f => qP P d f.type
   | some (.array m et) => match aA P et with
    | some s => Nat.beq n (m * s) && qP P d et
    | none => false
   | _ => false
theorem mapM_range' {α : Type} {f : Nat -> Option α} : ∀ {n j : Nat} {l : List α}, (List.range' j n).mapM f = some l -> l.length = n /\ ∀ i x, l[i]? = some x -> f (j + i) = some x
 | 0, j, l, e => by simp at e; subst e; exact ⟨rfl, fun i x h => by simp at h⟩
 | n + 1, j, l, e => by
  rw [List.range'_succ, List.mapM_cons] at e
  simp only [Option.bind_eq_bind, Option.bind_eq_some_iff, Option.pure_def, Option.some.injEq] at e
  obtain ⟨a, h1, r, h2, rfl⟩ := e
  obtain ⟨k1, k2⟩ := mapM_range' h2
  refine ⟨by simp [k1], fun i x hx => ?_⟩
  cases i with
  | zero => simp at hx; subst hx; exact h1
  | succ i => rw [show j + (i + 1) = j + 1 + i from by omega]; exact k2 i x (by simpa using hx)
theorem kn {α : Type} {f : Nat -> Option α} {n : Nat} {l : List α} (e : (List.range n).mapM f = some l) : l.length = n /\ ∀ i x, l[i]? = some x -> f i = some x := by
 rw [List.range_eq_range'] at e
 obtain ⟨h1, h2⟩ := mapM_range' e
 exact ⟨h1, fun i x hx => by simpa using h2 i x hx⟩
section
variable {H : Type} {enc : TypeId × Value -> H} {P : Program} {w : World} {sp : Nat -> Bool} {held : Bool}
def lu (w : World) : fu := fun B o => w.cell? ⟨B, o, none⟩
def Ay : Nat -> Prop := fun _ => False
def qW : Mu := fun _ => none
noncomputable def x9 : ah := ⟨0, .nil⟩
theorem AX {a : Addr} {v : Value} (e : w.cell? a = some v) : a = ⟨a.block, a.off, none⟩ := by
 obtain ⟨b, o, s⟩ := a
 cases s with
 | none => rfl
 | some s => unfold World.cell? at e; split at e <;> simp at e
theorem add_add (b o n : Nat) : (Addr.mk b o none).add n = ⟨b, o + n, none⟩ := a9.dZ b o n
theorem aL.DD {acs : List AV} {cs : List Value} {I : fu} {B : Nat} : ∀ {o : Nat}, aL qW I acs cs -> (∀ k v, cs[k]? = some v -> I B (o + k) = some v) -> cF qW I acs B o := by
 induction acs generalizing cs with
 | nil => intro o g h; exact .nil
 | cons a acs ih =>
  intro o g h
  cases g with
  | cons g1 g2 =>
   refine .cons (h 0 _ rfl) g1 (ih g2 fun k v hk => ?_)
   rw [show o + 1 + k = o + (k + 1) from by omega]
   exact h (k + 1) v (by simpa using hk)
theorem cF.append {I : fu} {B : Nat} {x y : List AV} : ∀ {o : Nat}, cF qW I x B o -> cF qW I y B (o + x.length) -> cF qW I (x ++ y) B o := by
 induction x with
 | nil => intro o _ h; simpa using h
 | cons a x ih =>
  intro o g h
  cases g with
  | cons g0 g1 g2 => exact .cons g0 g1 (ih g2 (by rw [show o + 1 + x.length = o + (a :: x).length from by simp; omega]; exact h))
theorem rN : ∀ {d fuel : Nat} {t : TypeId} {cs : List Value} {dd : DataW H} {ps : List MemPlace}, qP P d t = true -> DataW.trod enc P w 0 (fun _ => true) held fuel t cs = some (dd, ps) -> aA P t = some cs.length ->
  ∃ x acs, WT P d t x /\ aL qW (lu w) acs cs /\ PV P x9 Ay d t x acs
 | 0, _, _, _, _, _, e, _, _ => by simp [qP] at e
 | d + 1, 0, _, _, _, _, _, e, _ => by simp [DataW.trod] at e
 | d + 1, fuel + 1, t, cs, dd, ps, ht, e, hsz => by
  have ih := @rN d
  unfold qP at ht
  rw [hsz] at ht
  simp only at ht
  unfold DataW.trod at e
  cases hu : P.underlying t with
  | none => rw [hu] at ht; cases ht
  | some td =>
  rw [hu] at ht e
  have mkPV : ∀ {x : V} {acs : List AV}, acs.length = cs.length -> (match some td with
    | some (.int k) => ∃ n, x = .int n /\ acs = [.int k n]
    | some .bool => ∃ b, x = .bool b /\ acs = [.bool b]
    | some .string => ∃ s, x = .str s /\ acs = [.str s]
    | some (.slice et) => ∃ av sz, acs = [av] /\ aA P et = some sz /\ 0 < sz /\ Cn x9 Ay sz (PV P x9 Ay d et) x av
    | some (.struct fields) => ∃ xs, x = .list xs /\ pZ P (PV P x9 Ay d) fields.toList 0 xs acs
    | some (.array n et) => ∃ xs sz, x = .list xs /\ xs.length = n /\ aA P et = some sz /\ bQ sz (PV P x9 Ay d et) xs acs
    | _ => False) -> PV P x9 Ay (d + 1) t x acs := by
   intro x acs hl h
   refine ⟨by rw [hsz, hl], ?_⟩
   rw [hu]
   exact h
  have wt : ∀ {x : V}, (match some td with
    | some (.int k) => ∃ n, x = .int n /\ k.min <= n /\ n <= k.max
    | some .bool => ∃ b, x = .bool b
    | some .string => ∃ s, x = .str s
    | some (.slice et) => x = .nil \/ ∃ l, x = .list l /\ l.length <= Go.maxLen /\ ∀ y ∈ l, WT P d et y
    | some (.struct fields) => ∃ xs, x = .list xs /\ xs.length = fields.toList.length /\ ∀ (i : Nat) f y, fields.toList[i]? = some f -> xs[i]? = some y -> WT P d f.type y
    | some (.array n et) => ∃ xs, x = .list xs /\ xs.length = n /\ ∀ y ∈ xs, WT P d et y
    | _ => False) -> WT P (d + 1) t x := by
   intro x h
   unfold WT
   rw [hu]
   exact h
  cases td <;> simp only at ht <;> first | (cases ht; done) | skip
  case bool =>
   obtain ⟨v, rfl⟩ : ∃ v, cs = [v] := List.length_eq_one_iff.1 (aq ht)
   cases v <;> simp at e
   rename_i b
   exact ⟨.bool b, [.bool b], wt ⟨b, rfl⟩, .cons (.bool b) .nil, mkPV rfl ⟨b, rfl, rfl⟩⟩
  case int k =>
   obtain ⟨v, rfl⟩ : ∃ v, cs = [v] := List.length_eq_one_iff.1 (aq ht)
   cases v <;> simp at e
   rename_i k' n
   obtain ⟨⟨rfl, hw⟩, _⟩ := e
   simp only [Lit.wf, Bool.and_eq_true, decide_eq_true_eq] at hw
   exact ⟨.int n, [.int k' n], wt ⟨n, rfl, hw.1, hw.2⟩, .cons (.int k' n) .nil, mkPV rfl ⟨n, rfl, rfl⟩⟩
  case string =>
   obtain ⟨v, rfl⟩ : ∃ v, cs = [v] := List.length_eq_one_iff.1 (aq ht)
   cases v <;> simp at e
   rename_i s
   exact ⟨.str s, [.str s], wt ⟨s, rfl⟩, .cons (.str s) .nil, mkPV rfl ⟨s, rfl, rfl⟩⟩
  case slice et =>
   simp only [Bool.and_eq_true] at ht
   obtain ⟨⟨h1, h2⟩, h3⟩ := ht
   obtain ⟨v, rfl⟩ : ∃ v, cs = [v] := List.length_eq_one_iff.1 (aq h1)
   obtain ⟨sz, hs, hpos⟩ : ∃ sz, aA P et = some sz /\ 0 < sz := by
    split at h2
    ·rename_i q hq; exact ⟨_, hq, by omega⟩
    ·cases h2
   have hco : P.cellsOf et = sz := by simp [Program.cellsOf]; simp [aA] at hs; obtain ⟨i, hi, rfl⟩ := hs; simp [hi]
   cases v <;> simp at e
   rename_i a len cap
   cases a with
   | none =>
    cases len with
    | zero =>
     cases cap with
     | zero => exact ⟨.nil, [.aV], wt (.inl rfl), .cons .aV .nil, mkPV rfl ⟨_, sz, rfl, hs, hpos, .inl ⟨rfl, rfl⟩⟩⟩
     | succ c => simp at e
    | succ l => simp at e
   | some a =>
    simp only [Option.ite_none_right_eq_some] at e
    obtain ⟨⟨hlc, hcm⟩, e⟩ := e
    simp only [Option.bind_eq_some_iff, Option.map_eq_some_iff] at e
    obtain ⟨bx, e1, rest, e2, e3⟩ := e
    rw [hco] at e1 e2
    obtain ⟨k1, k2⟩ := kn e1
    obtain ⟨r1, r2⟩ := kn e2
    -- an element that is there
    have hadd : ∀ n, (a.add n).block = a.block /\ (a.add n).off = a.off + n := by
     intro n; unfold Addr.add; split
     ·rename_i h; subst h; exact ⟨rfl, rfl⟩
     ·exact ⟨rfl, rfl⟩
    have elem : ∀ (i : Nat) y, (w.cells? 0 (a.add (i * sz)) sz).bind (DataW.trod enc P w 0 (fun _ => true) held fuel et) = some y -> a.add (i * sz) = ⟨a.block, a.off + i * sz, none⟩ /\ ∃ x acs, WT P d et x /\ acs.length = sz /\ cF qW (lu w) acs a.block (a.off + i * sz) /\ PV P x9 Ay d et x acs := by
     intro i y hy
     simp only [Option.bind_eq_some_iff] at hy
     obtain ⟨ecs, c1, c2⟩ := hy
     simp only [World.cells?, Nat.zero_le, if_true] at c1
     obtain ⟨m1, m2⟩ := kn c1
     have hsp : a.add (i * sz) = ⟨a.block, a.off + i * sz, none⟩ := by
      cases hec : ecs with
      | nil => rw [hec] at m1; simp at m1; omega
      | cons v0 ecs' =>
       have h0 := m2 0 v0 (by rw [hec]; rfl)
       have h0' : w.cell? (a.add (i * sz)) = some v0 := by
        have : (a.add (i * sz)).add 0 = a.add (i * sz) := by unfold Addr.add; simp
        rwa [this] at h0
       have := AX h0'
       rw [(hadd _).1, (hadd _).2] at this
       exact this
     obtain ⟨x, acs, p1, p2, p3⟩ := ih (dd := y.1) (ps := y.2) h3 c2 (by rw [hs, m1])
     refine ⟨hsp, x, acs, p1, by rw [p2.length, m1], aL.DD p2 fun k v hk => ?_, p3⟩
     have := m2 k v hk
     rw [hsp, add_add] at this
     exact this
    have rows : ∀ (l : List (DataW H × List MemPlace)) (j : Nat), (∀ i y, l[i]? = some y -> (w.cells? 0 (a.add ((j + i) * sz)) sz).bind (DataW.trod enc P w 0 (fun _ => true) held fuel et) = some y) ->
      ∃ xs acs, xs.length = l.length /\ (∀ y ∈ xs, WT P d et y) /\ bQ sz (PV P x9 Ay d et) xs acs /\ cF qW (lu w) acs a.block (a.off + j * sz) := by
     intro l
     induction l with
     | nil => intro j _; exact ⟨[], [], rfl, by simp, rfl, .nil⟩
     | cons y l ihl =>
      intro j hl
      obtain ⟨_, x, acs, p1, p2, p3, p4⟩ := elem j y (hl 0 y rfl)
      obtain ⟨xs, acs', q1, q2, q3, q4⟩ := ihl (j + 1) fun i z hz => by
       rw [show j + 1 + i = j + (i + 1) from by omega]; exact hl (i + 1) z (by simpa using hz)
      refine ⟨x :: xs, acs ++ acs', by simp [q1], ?_, ⟨acs, acs', rfl, p2, p4, q3⟩, cF.append p3 ?_⟩
      ·intro z hz
       rcases List.mem_cons.1 hz with rfl | hz
       ·exact p1
       ·exact q2 z hz
      ·rw [p2, show a.off + j * sz + sz = a.off + (j + 1) * sz from by rw [Nat.succ_mul]; omega]; exact q4
    obtain ⟨xs, acs, q1, q2, q3, q4⟩ := rows bx 0 fun i y hy => by rw [Nat.zero_add]; exact k2 i y hy
    rw [Nat.zero_mul, Nat.add_zero] at q4
    have hxl : xs.length = len := by rw [q1, k1]
    refine ⟨.list xs, [.bY acs len sz], wt (.inr ⟨xs, rfl, by omega, q2⟩), .cons ?_ .nil, mkPV rfl ⟨_, sz, rfl, hs, hpos, .inr ⟨xs, rfl, .inr ⟨acs, [], by rw [hxl], by simpa using q3⟩⟩⟩⟩
    have spot : 0 < cap -> a = ⟨a.block, a.off, none⟩ := by
     intro hc
     have key : ∀ y, (w.cells? 0 (a.add (0 * sz)) sz).bind (DataW.trod enc P w 0 (fun _ => true) held fuel et) = some y -> a = ⟨a.block, a.off, none⟩ := by
      intro y hy
      have := (elem 0 y hy).1
      rw [Nat.zero_mul] at this
      have h0 : a.add 0 = a := by unfold Addr.add; simp
      rw [h0] at this
      simpa using this
     cases hels : bx with
     | cons y els' => exact key y (k2 0 y (by rw [hels]; rfl))
     | nil =>
      rw [hels] at k1
      have hl0 : len = 0 := by simpa using k1.symm
      subst hl0
      cases hrest : rest with
      | nil => rw [hrest] at r1; simp at r1; omega
      | cons y rest' => exact key y (by have := r2 0 y (by rw [hrest]; rfl); simpa using this)
    by_cases hc : cap = 0
    ·subst hc
     have : len = 0 := by omega
     subst this
     exact .je
    ·have hsp := spot (by omega)
     rw [hsp]
     exact .bY q4 hlc
  case struct fields =>
   simp only [Bool.and_eq_true, decide_eq_true_eq, List.all_eq_true] at ht
   obtain ⟨h1, h2⟩ := ht
   have hco : P.cellsOf t = cs.length := by simp [Program.cellsOf]; simp [aA] at hsz; obtain ⟨i, hi, q⟩ := hsz; simp [hi, q]
   have e' : (if cs.length = P.cellsOf t then (fields.toList.mapM fun f => DataW.trod enc P w 0 (fun _ => true) held fuel f.type ((cs.drop f.offset).take (P.cellsOf f.type))).map (fun xs => ((DataW.agg (xs.map (·.1)) : DataW H), xs.flatMap (·.2))) else none) = some (dd, ps) := by
    cases cs with
    | nil => exact e
    | cons c cs => exact e
   rw [if_pos hco.symm] at e'
   simp only [Option.map_eq_some_iff] at e'
   obtain ⟨l, e1, _⟩ := e'
   have key : ∀ (fs : List Field) (pos : Nat) (l : List (DataW H × List MemPlace)), (∀ f ∈ fs, qP P d f.type = true) -> tight P fs pos = some cs.length -> (fs.mapM fun f => DataW.trod enc P w 0 (fun _ => true) held fuel f.type ((cs.drop f.offset).take (P.cellsOf f.type))) = some l ->
     ∃ xs acs, xs.length = fs.length /\ (∀ (i : Nat) f y, fs[i]? = some f -> xs[i]? = some y -> WT P d f.type y) /\ aL qW (lu w) acs (cs.drop pos) /\ pZ P (PV P x9 Ay d) fs pos xs acs /\ pos <= cs.length := by
    intro fs
    induction fs with
    | nil =>
     intro pos l _ hp _
     simp [tight] at hp
     subst hp
     exact ⟨[], [], rfl, by simp, by rw [List.drop_length]; exact .nil, ⟨rfl, rfl⟩, Nat.le_refl _⟩
    | cons f fs ihf =>
     intro pos l hf hp hl
     unfold tight at hp
     split at hp
     ·rename_i s hs
      obtain ⟨ho, hp⟩ := aj hp
      have ho := aq ho
      rw [List.mapM_cons] at hl
      simp only [Option.bind_eq_bind, Option.bind_eq_some_iff, Option.pure_def, Option.some.injEq] at hl
      obtain ⟨y, y1, r, y2, _⟩ := hl
      obtain ⟨xs, acs, q1, q2, q3, q4, q5⟩ := ihf (pos + s) r (fun g hg => hf g (by simp [hg])) hp y2
      have hcf : P.cellsOf f.type = s := by simp [Program.cellsOf]; simp [aA] at hs; obtain ⟨i, hi, q⟩ := hs; simp [hi, q]
      rw [hcf, ho] at y1
      have hlen : ((cs.drop pos).take s).length = s := by simp; omega
      obtain ⟨x, bcs, p1, p2, p3⟩ := ih (dd := y.1) (ps := y.2) (hf f (by simp)) y1 (by rw [hs, hlen])
      have hb : bcs.length = s := by rw [p2.length, hlen]
      refine ⟨x :: xs, bcs ++ acs, by simp [q1], ?_, ?_, ⟨x, xs, bcs, acs, rfl, rfl, ho, p3, by rw [hb]; exact q4⟩, by omega⟩
      ·intro i g z hg hz
       cases i with
       | zero => simp at hg hz; subst hg; subst hz; exact p1
       | succ i => exact q2 i g z (by simpa using hg) (by simpa using hz)
      ·have := p2.append q3
       rw [<- List.drop_drop, List.take_append_drop] at this
       exact this
     ·cases hp
   obtain ⟨xs, acs, q1, q2, q3, q4, _⟩ := key fields.toList 0 l h2 h1 e1
   rw [List.drop_zero] at q3
   exact ⟨.list xs, acs, wt ⟨xs, rfl, q1, q2⟩, q3, mkPV q3.length ⟨xs, rfl, q4⟩⟩
  case array n et =>
   split at ht
   ·rename_i s hs
    simp only [Bool.and_eq_true] at ht
    obtain ⟨h1, h2⟩ := ht
    have h1 := aq h1
    have hco : P.cellsOf t = cs.length := by simp [Program.cellsOf]; simp [aA] at hsz; obtain ⟨i, hi, q⟩ := hsz; simp [hi, q]
    have hce : P.cellsOf et = s := by simp [Program.cellsOf]; simp [aA] at hs; obtain ⟨i, hi, q⟩ := hs; simp [hi, q]
    have e' : (if cs.length = P.cellsOf t then ((List.range n).mapM fun i => DataW.trod enc P w 0 (fun _ => true) held fuel et ((cs.drop (i * P.cellsOf et)).take (P.cellsOf et))).map (fun xs => ((DataW.agg (xs.map (·.1)) : DataW H), xs.flatMap (·.2))) else none) = some (dd, ps) := by
     cases cs with
     | nil => exact e
     | cons c cs => exact e
    rw [if_pos hco.symm, hce] at e'
    simp only [Option.map_eq_some_iff] at e'
    obtain ⟨l, e1, _⟩ := e'
    obtain ⟨k1, k2⟩ := kn e1
    have key : ∀ (m j : Nat), j + m = n -> ∃ xs acs, xs.length = m /\ (∀ y ∈ xs, WT P d et y) /\ aL qW (lu w) acs (cs.drop (j * s)) /\ bQ s (PV P x9 Ay d et) xs acs := by
     intro m
     induction m with
     | zero =>
      intro j hj
      have : j = n := by omega
      subst this
      exact ⟨[], [], rfl, by simp, by rw [List.drop_eq_nil_of_le (by omega)]; exact .nil, rfl⟩
     | succ m ihm =>
      intro j hj
      obtain ⟨xs, acs, q1, q2, q3, q4⟩ := ihm (j + 1) (by omega)
      have hjl : j < l.length := by omega
      have y1 := k2 j l[j] (by simp [hjl])
      have hle : (j + 1) * s <= n * s := Nat.mul_le_mul_right _ (by omega)
      have hlen : ((cs.drop (j * s)).take s).length = s := by
       rw [Nat.succ_mul] at hle
       simp; omega
      obtain ⟨x, bcs, p1, p2, p3⟩ := ih (dd := l[j].1) (ps := l[j].2) h2 y1 (by rw [hs, hlen])
      refine ⟨x :: xs, bcs ++ acs, by simp [q1], ?_, ?_, ⟨bcs, acs, rfl, by rw [p2.length, hlen], p3, q4⟩⟩
      ·intro z hz
       rcases List.mem_cons.1 hz with rfl | hz
       ·exact p1
       ·exact q2 z hz
      ·have := p2.append q3
       rw [Nat.succ_mul, <- List.drop_drop, List.take_append_drop] at this
       exact this
    obtain ⟨xs, acs, q1, q2, q3, q4⟩ := key n 0 (by omega)
    rw [Nat.zero_mul, List.drop_zero] at q3
    exact ⟨.list xs, acs, wt ⟨xs, rfl, q1, q2⟩, q3, mkPV q3.length ⟨xs, s, rfl, q1, hs, q4⟩⟩
   ·cases ht
theorem CZ {t : TypeId} {v : Value} {dd : DataW H} {ps : List MemPlace} (ht : qP P deep t = true) (hv : Value.okWide P w .any 0 t v) (e : DataW.Trod enc P w 0 (fun _ => true) held t v dd ps) :
  ∃ x a, WT P deep t x /\ aG qW (lu w) a v /\ tz P x9 Ay t x a := by
 obtain ⟨fuel, e⟩ := e
 have hag : (bB P t = some true /\ ∃ cs, v = .agg cs /\ cs.size = P.cellsOf t) \/ (bB P t = some false /\ v.cells.toList = [v] /\ aA P t = some 1) := by
  unfold qP deep at ht
  simp only at ht
  cases hs : aA P t with
  | none => rw [hs] at ht; cases ht
  | some n =>
   rw [hs] at ht
   simp only at ht
   cases hu : P.underlying t with
   | none => rw [hu] at ht; cases ht
   | some td =>
    rw [hu] at ht
    cases td <;> simp only at ht <;> first | (cases ht; done) | skip
    case bool =>
     have := aq ht; subst this
     obtain ⟨b, rfl⟩ := Go.WideShapes.okWide_bool hu hv
     exact .inr ⟨by simp [bB, hu], rfl, rfl⟩
    case int k =>
     have := aq ht; subst this
     obtain ⟨b, rfl⟩ := Go.WideShapes.okWide_int hu hv
     exact .inr ⟨by simp [bB, hu], rfl, rfl⟩
    case string =>
     have := aq ht; subst this
     obtain ⟨b, rfl⟩ := Go.WideShapes.okWide_string hu hv
     exact .inr ⟨by simp [bB, hu], rfl, rfl⟩
    case slice et =>
     simp only [Bool.and_eq_true] at ht
     have := aq ht.1.1; subst this
     obtain ⟨a, l, c, rfl⟩ := Go.WideShapes.okWide_slice hu hv
     exact .inr ⟨by simp [bB, hu], rfl, rfl⟩
    case struct fields =>
     obtain ⟨cs, h1, h2⟩ := Go.WideShapes.okWide_struct hu hv
     exact .inl ⟨by simp [bB, hu], cs, h1, h2⟩
    case array m et =>
     have hv' := hv
     unfold Value.okWide at hv'
     rw [hu] at hv'
     obtain ⟨cs, h1, h2, _⟩ := hv'
     exact .inl ⟨by simp [bB, hu], cs, h1, h2⟩
 rcases hag with ⟨h1, cs, rfl, h2⟩ | ⟨h1, h2, h3⟩
 ·have hsz : aA P t = some cs.toList.length := by
   cases hs : aA P t with
   | none => unfold qP deep at ht; simp only at ht; rw [hs] at ht; cases ht
   | some n =>
    simp [aA] at hs
    obtain ⟨i, hi, q⟩ := hs
    simp [Program.cellsOf, hi, q] at h2
    simp [h2]
  obtain ⟨x, acs, p1, p2, p3⟩ := rN ht e hsz
  exact ⟨x, .agg acs, p1, .agg p2, acs, p3, .inl ⟨h1, rfl⟩⟩
 ·rw [h2] at e
  obtain ⟨x, acs, p1, p2, p3⟩ := rN ht e (by rw [h3]; rfl)
  cases p2 with
  | cons g1 g2 =>
   cases g2
   exact ⟨x, _, p1, g1, _, p3, .inr ⟨h1, rfl⟩⟩
theorem xQ : ∀ {ts : List TypeId} {vs : List Value} {ds : List (DataW H)} {ps : List MemPlace}, ts.all (qP P deep) = true -> (∀ (j : Nat) t v, ts[j]? = some t -> vs[j]? = some v -> Value.okWide P w .any 0 t v) -> DataW.TrodAll enc P w 0 (fun _ => true) held ts vs ds ps ->
  ∃ xs as_, Dl P ts xs /\ aL qW (lu w) as_ vs /\ fJ P x9 Ay ts xs as_
 | [], [], [], ps, _, _, _ => ⟨[], [], .nil, .nil, .nil⟩
 | t :: ts, v :: vs, d :: ds, ps, ht, hv, e => by
  obtain ⟨p, q, e1, e2, _⟩ := e
  simp only [List.all_cons, Bool.and_eq_true] at ht
  obtain ⟨x, a, h1, h2, h3⟩ := CZ ht.1 (hv 0 t v rfl rfl) e1
  obtain ⟨xs, as_, k1, k2, k3⟩ := xQ ht.2 (fun j t v ht hv' => hv (j + 1) t v (by simpa using ht) (by simpa using hv')) e2
  exact ⟨x :: xs, a :: as_, .cons h1 k1, .cons h2 k2, .cons h3 k3⟩
 | [], _ :: _, _, _, _, _, e => e.elim
 | [], [], _ :: _, _, _, _, e => e.elim
 | _ :: _, [], _, _, _, _, e => e.elim
 | _ :: _, _ :: _, [], _, _, _, e => e.elim
theorem AF [ig (lu w)] {f : FuncId} {fn : Func} (hfn : P.funcs[f]? = some fn) (hF : ∀ xs, Dl P fn.params.toList xs -> Fn P f xs (.bool true)) (ht : fn.params.toList.all (qP P deep) = true)
  (hr : (match fn.resultTypes.toList with | [rt] => (match P.underlying rt with | some .bool => true | _ => false) | _ => false) = true)
  {args : Array Value} {ds : List (DataW H)} {ps : List MemPlace} (hval : ∀ (j : Nat) t v, fn.params[j]? = some t -> args[j]? = some v -> Value.okWide P w .any 0 t v) (hA : DataW.TrodAll enc P w 0 (fun _ => true) held fn.params.toList args.toList ds ps) :
  Calls P f args w fun e w' => e = .returned (.bool true) /\ Below w.heap.size w w' := by
 obtain ⟨xs, as_, h1, h2, h3⟩ := xQ ht (fun j t v h k => hval j t v (by simpa using h) (by simpa using k)) hA
 obtain ⟨g, g1, hg⟩ := hF xs h1 x9 Ay as_ fn hfn (fun c hc => hc.elim) (fun c hc => by simp [x9, ah.get, Tr.get_nil]) h3
 obtain ⟨gE, h', us, k1, k2, k3, k4, k5, k6, k7, k8, k9, k10⟩ := hg []
 have hu : us = [.bool true] := by
  split at hr
  ·rename_i rt hrt
   rw [hrt] at k4
   obtain ⟨u, rfl, cs, p1, p2⟩ := k4
   split at hr
   ·rename_i hu
    obtain ⟨_, p1⟩ := p1
    rw [hu] at p1
    obtain ⟨b, q1, q2⟩ := p1
    cases q1
    subst q2
    rcases p2 with ⟨p2, _⟩ | ⟨_, p2⟩
    ·simp [bB, hu] at p2
    ·simp at p2; rw [<- p2]
   ·cases hr
  ·cases hr
 subst hu
 have hd : done P f ⟨gE, [], h'⟩ = some (.bool true) := by
  unfold done
  simp only [k6, k7, k5, k8, hfn, k9]
  simp
 refine (tb (I := lu w) (args := as_) (m0 := ⟨g, [], x9⟩) (by simp [zd, g1, x9]) k10 hd w (fun B o v e => e) h2).mono fun e w' ⟨μ, u, he, hu, hb⟩ => ?_
 subst he
 cases hu
 exact ⟨rfl, hb⟩
end
end Go.Sym
namespace Go.Sym
def val : List Nat -> Nat
 | [] => 0
 | d :: l => d + 10000 * val l
def Dk : Nat -> Nat -> List Nat
 | 0, _ => []
 | f + 1, n => if n = 0 then [] else n % 10000 :: Dk f (n / 10000)
def dg (n : Nat) : List Nat := Dk n n
def Ok (l : List Nat) : Prop := ∀ d ∈ l, d < 10000
theorem xL : ∀ (f g n : Nat), n <= f -> n <= g -> Dk f n = Dk g n
 | 0, g, n, h, _ => by
  have : n = 0 := by omega
  subst this
  cases g <;> simp [Dk]
 | f + 1, 0, n, _, h => by
  have : n = 0 := by omega
  subst this; simp [Dk]
 | f + 1, g + 1, n, h1, h2 => by
  unfold Dk
  by_cases h0 : n = 0
  ·simp [h0]
  ·rw [if_neg h0, if_neg h0, xL f g (n / 10000) (by omega) (by omega)]
theorem jt : dg 0 = [] := rfl
theorem jG {n : Nat} (h : n ≠ 0) : dg n = n % 10000 :: dg (n / 10000) := by
 unfold dg
 obtain ⟨m, rfl⟩ : ∃ m, n = m + 1 := ⟨n - 1, by omega⟩
 conv => lhs; unfold Dk
 rw [if_neg h, xL m ((m + 1) / 10000) _ (by omega) (by omega)]
theorem eF (n : Nat) : val (dg n) = n := by
 induction n using Nat.strongRecOn with
 | _ n ih =>
  by_cases h : n = 0
  ·subst h; rfl
  ·rw [jG h]
   simp only [val, ih (n / 10000) (by omega)]
   omega
theorem gX (n : Nat) : Ok (dg n) := by
 induction n using Nat.strongRecOn with
 | _ n ih =>
  by_cases h : n = 0
  ·subst h; intro d hd; simp [jt] at hd
  ·rw [jG h]
   intro d hd
   rcases List.mem_cons.1 hd with rfl | hd
   ·omega
   ·exact ih (n / 10000) (by omega) d hd
theorem B4 : ∀ (l : List Nat), Ok l -> (∀ h : l ≠ [], l.getLast h ≠ 0) -> dg (val l) = l
 | [], _, _ => rfl
 | d :: l, ho, hl => by
  have hd : d < 10000 := ho d (by simp)
  have ho' : Ok l := fun x hx => ho x (by simp [hx])
  by_cases hn : l = []
  ·subst hn
   have : d ≠ 0 := hl (by simp)
   rw [jG (by simp [val]; omega)]
   simp only [val]
   rw [show (d + 10000 * 0) % 10000 = d from by omega, show (d + 10000 * 0) / 10000 = 0 from by omega]
   rfl
  ·have ih := B4 l ho' (fun h => by have := hl (by simp); rwa [List.getLast_cons hn] at this)
   have hv : val l ≠ 0 := by
    intro h0
    rw [h0] at ih
    exact hn ih.symm
   rw [jG (by simp only [val]; omega)]
   simp only [val]
   rw [show (d + 10000 * val l) % 10000 = d from by omega, show (d + 10000 * val l) / 10000 = val l from by omega, ih]
def pw (i : Nat) : Nat := 10000 ^ i
theorem dk : pw 0 = 1 := rfl
theorem b8 (i : Nat) : pw (i + 1) = 10000 * pw i := by unfold pw; rw [Nat.pow_succ, Nat.mul_comm]
theorem vp (i j : Nat) : pw (i + j) = pw i * pw j := by unfold pw; rw [Nat.pow_add]
theorem nA (i : Nat) : 0 < pw i := Nat.pow_pos (by omega)
theorem sZ (m i : Nat) : m / pw (i + 1) = m / pw i / 10000 := by rw [Nat.div_div_eq_div_mul, b8, Nat.mul_comm]
theorem m9 (a b : List Nat) : val (a ++ b) = val a + pw a.length * val b := by
 induction a with
 | nil => simp [val, dk]
 | cons d a ih => simp only [List.cons_append, val, ih, List.length_cons, b8]; rw [Nat.mul_add, <- Nat.mul_assoc]; omega
theorem eE : ∀ {l : List Nat}, Ok l -> val l < pw l.length
 | [], _ => by simp [val, dk]
 | d :: l, h => by
  have := eE (l := l) (fun x hx => h x (by simp [hx]))
  have hd := h d (by simp)
  simp only [val, List.length_cons, b8]
  omega
theorem h7 {n k : Nat} (h : n < pw k) : (dg n).length <= k := by
 induction k generalizing n with
 | zero =>
  have : n = 0 := by rw [dk] at h; omega
  subst this; simp [jt]
 | succ k ih =>
  by_cases h0 : n = 0
  ·subst h0; simp [jt]
  ·rw [jG h0]
   have := ih (n := n / 10000) (by rw [b8] at h; omega)
   simp; omega
def a8 (a : V) (l : List Nat) : Prop := a.bx = l.map fun d => V.int (Int.ofNat d)
theorem a8.len {a : V} {l : List Nat} (h : a8 a l) : a.len = l.length := by unfold a8 at h; simp [V.len, h]
theorem a8.get {a : V} {l : List Nat} (h : a8 a l) {i d : Nat} (hd : l[i]? = some d) : (a.get (i : Int)).ab = d := by
 unfold a8 at h; simp [V.get, h, hd, V.ab]
theorem a8.snoc {a : V} {l : List Nat} (h : a8 a l) (d : Nat) : a8 (a.snoc (.int d)) (l ++ [d]) := by
 unfold a8 at *; simp [V.snoc, h, show ∀ l, (V.list l).bx = l from fun _ => rfl]
theorem a8.set {a : V} {l : List Nat} (h : a8 a l) (i d : Nat) : a8 (a.set (i : Int) (.int d)) (l.set i d) := by
 unfold a8 at *; simp [V.set, h, show ∀ l, (V.list l).bx = l from fun _ => rfl, List.map_set]
theorem a8.rep (n : Nat) (d : Nat) : a8 (V.rep n (.int d)) (List.replicate n d) := by
 unfold a8; simp [V.rep, show ∀ l, (V.list l).bx = l from fun _ => rfl]
theorem a8.app {a b : V} {l k : List Nat} (h : a8 a l) (g : a8 b k) : a8 (a.app b) (l ++ k) := by
 unfold a8 at *
 unfold V.app
 split <;> simp_all [V.bx]
theorem a8.sub {a : V} {l : List Nat} (h : a8 a l) {i j : Nat} (hij : i <= j) (hj : j <= l.length) : a8 (a.sub (i : Int) (j : Int)) ((l.take j).drop i) := by
 unfold a8 at *
 unfold V.sub
 split <;> simp_all [V.bx]
theorem jX : a8 .nil [] := rfl
theorem lH : a8 (.list []) [] := rfl
theorem BF (a : Int) : vA a (-a) = a.natAbs := by unfold vA; split <;> omega
theorem lU (m i : Nat) : (dg m)[i]? = if m / pw i = 0 then none else some (m / pw i % 10000) := by
 induction i generalizing m with
 | zero =>
  by_cases h : m = 0
  ·subst h; simp [jt]
  ·rw [jG h, dk]; simp [h]
 | succ i ih =>
  by_cases h : m = 0
  ·subst h; simp [jt]
  ·rw [jG h, List.getElem?_cons_succ, ih, Nat.div_div_eq_div_mul, b8, Nat.mul_comm]
theorem ie (m i : Nat) : i < (dg m).length ↔ m / pw i ≠ 0 := by
 have := lU m i
 constructor
 ·intro h q
  rw [if_pos q] at this
  rw [List.getElem?_eq_none_iff] at this; omega
 ·intro h
  rw [if_neg h] at this
  exact (List.getElem?_eq_some_iff.1 this).1
theorem zB {l : List Nat} {i d0 : Nat} (h : l[i]? = some d0) (d : Nat) : val (l.set i d) + d0 * pw i = val l + d * pw i := by
 induction l generalizing i with
 | nil => simp at h
 | cons x l ih =>
  cases i with
  | zero => simp at h; subst h; simp [val, dk]; omega
  | succ i =>
   simp only [List.getElem?_cons_succ] at h
   have := ih h
   simp only [List.set_cons_succ, val, b8]
   rw [Nat.mul_left_comm, Nat.mul_left_comm d]; omega
theorem Ok.set {l : List Nat} (h : Ok l) (i d : Nat) (hd : d < 10000) : Ok (l.set i d) := by
 intro x hx
 rcases List.mem_or_eq_of_mem_set hx with q | q
 ·exact h x q
 ·omega
theorem Ok.app {l k : List Nat} (h : Ok l) (g : Ok k) : Ok (l ++ k) := by
 intro x hx
 rcases List.mem_append.1 hx with q | q
 ·exact h x q
 ·exact g x q
theorem zC (n : Nat) : val (List.replicate n 0) = 0 := by
 induction n with
 | zero => rfl
 | succ n ih => simp [List.replicate_succ, val, ih]
theorem gG (l : List Nat) (j d : Nat) (h : l[j]? = some d) : val (l.take (j + 1)) = val (l.take j) + pw j * d := by
 obtain ⟨h1, h2⟩ := List.getElem?_eq_some_iff.1 h
 rw [List.take_add_one, h, m9]
 simp [val]
 congr 2
 omega
theorem CU (m i : Nat) : (dg m).drop i = dg (m / pw i) := by
 induction i generalizing m with
 | zero => simp [dk]
 | succ i ih =>
  by_cases h : m = 0
  ·subst h; simp [jt]
  ·rw [jG h, List.drop_succ_cons, ih, Nat.div_div_eq_div_mul, b8, Nat.mul_comm]
end Go.Sym
namespace X
open Go Go.a9 Go.Sym
theorem Dy : (prog.funcs.toList.all fun fn => !(fn.name == "runtime.NumGoroutine")) = true := by kernel_rfl
theorem aa : Go.a9.cx prog := ⟨by kernel_rfl, fun f fn e => by
 have h := Dy
 simp only [List.all_eq_true, Bool.not_eq_true'] at h
 exact h fn (Array.mem_toList_iff.2 (Array.mem_of_getElem? e))⟩
theorem BO (v : List V) (hv : v.length = 2) : ∀ (n a b : Nat), a <= n -> Comes dT.K dT.f dT.s1 ⟨[a, b], [], v⟩ (.int (Nat.gcd a b)) := by
 obtain ⟨x, y, rfl⟩ : ∃ x y, v = [x, y] := by
  match v, hv with
  | [x, y], _ => exact ⟨x, y, rfl⟩
 intro n
 induction n with
 | zero =>
  intro a b h
  have : a = 0 := by omega
  subst this
  refine Comes.last aa dT.p2 [] ⟨rfl, trivial⟩ ?_
  simp [E.v, E.i, Env.ext]
 | succ n ih =>
  intro a b h
  by_cases h0 : a = 0
  ·subst h0
   refine Comes.last aa dT.p2 [] ⟨rfl, trivial⟩ ?_
   simp [E.v, E.i, Env.ext]
  ·refine Comes.step aa dT.p1 [] ?_ ?_
   ·simp [HM, FT, IB, ag, E.b, E.i, Env.ext, aD, aI]; omega
   ·have := ih (b % a) a (by have := Nat.mod_lt b (Nat.pos_of_ne_zero h0); omega)
    rw [Nat.gcd_rec]
    exact this
theorem BN (a b : Nat) : Fn prog dT.f [.int a, .int b] (.int (Nat.gcd a b)) := by
 refine Fn.of (C := dT.K) dT.b ?_
 refine Comes.step aa dT.p0 [] trivial ?_
 exact BO [.int a, .int b] rfl a a b (Nat.le_refl _)
end X
namespace X
open Go Go.a9 Go.Sym
theorem xK : ∀ (m : Nat) (n : Int) (x out : V) (l : List Nat), n.natAbs = m -> -9223372036854775808 <= n -> n <= 9223372036854775807 -> a8 out l -> l.length + (dg m).length <= 8796093021696 -> ∃ r, a8 r (l ++ dg m) /\ Comes cn.K cn.f cn.s1 ⟨[n], [], [x, out]⟩ r := by
 intro m
 induction m using Nat.strongRecOn with
 | _ m ih =>
  intro n x out l hm h1 h2 ho hl
  by_cases h0 : n = 0
  ·subst h0
   have : m = 0 := by omega
   subst this
   refine ⟨out, by simpa [jt] using ho, Comes.last aa cn.p2 [] ?_ ?_⟩
   ·simp [HM, FT, IB, ag, E.b, E.i, E.v, Env.ext, Sub.ev, aD, ao, aK, aI, aC, aE]
   ·simp [HM, FT, IB, ag, E.b, E.i, E.v, Env.ext, Sub.ev, aD, ao, aK, aI, aC, aE]
  ·have hmp : m ≠ 0 := by omega
   have hd : (dg m).length = (dg (m / 10000)).length + 1 := by rw [jG hmp]; simp
   have hq : (n.tdiv 10000).natAbs = m / 10000 := by rw [Int.natAbs_tdiv, hm]; rfl
   have hr : (n.tmod 10000).natAbs = m % 10000 := by rw [Int.natAbs_tmod, hm]; rfl
   have ho' : a8 (out.snoc (.int (vA (n.tmod 10000) (0-n.tmod 10000)))) (l ++ [m % 10000]) := by
    rw [show 0 - n.tmod 10000 = -n.tmod 10000 from by omega, BF, hr]; exact ho.snoc _
   obtain ⟨r, r1, r2⟩ := ih (m / 10000) (by omega) (n.tdiv 10000) x _ _ hq (by omega) (by omega) ho' (by simp; omega)
   refine ⟨r, ?_, Comes.step aa cn.p1 [] ?_ r2⟩
   ·rw [jG hmp]; simpa using r1
   ·have := ho.len
    simp [HM, FT, IB, ag, E.b, E.i, E.v, Env.ext, Sub.ev, aD, ao, aK, aI, aC, aE]
    omega
theorem lT (n : Int) (h1 : -9223372036854775808 <= n) (h2 : n <= 9223372036854775807) : ∃ r, a8 r (dg n.natAbs) /\ Fn prog cn.f [.int n] r := by
 have hl : (dg n.natAbs).length <= 5 := h7 (by unfold pw; omega)
 obtain ⟨r, r1, r2⟩ := xK n.natAbs n (.int n) .nil [] rfl h1 h2 jX (by simp; omega)
 refine ⟨r, r1, Fn.of (C := cn.K) cn.b ?_⟩
 exact Comes.step aa cn.p0 [] trivial r2
theorem B6 : ∀ (n : Nat) (x a : V) (l : List Nat), l.length = n -> a8 a l -> Ok l -> n <= 8796093021696 -> ∃ r, a8 r (dg (val l)) /\ Comes dw.K dw.f dw.s1 ⟨[], [], [x, a]⟩ r := by
 intro n
 induction n with
 | zero =>
  intro x a l hl ha ho hn
  have : l = [] := List.length_eq_zero_iff.1 hl
  subst this
  refine ⟨a, ha, Comes.last aa dw.p3 [] ?_ ?_⟩
  ·have := ha.len
   simp [HM, FT, IB, ag, E.b, E.i, E.v, Env.ext, Sub.ev, aD, ao, aK, aI, aC, aE]; omega
  ·simp [HM, FT, IB, ag, E.b, E.i, E.v, Env.ext, Sub.ev, aD, ao, aK, aI, aC, aE]
 | succ n ih =>
  intro x a l hl ha ho hn
  have hlen := ha.len
  obtain ⟨k, d, rfl⟩ : ∃ k d, l = k ++ [d] := by
   have : l ≠ [] := by intro q; subst q; simp at hl
   exact ⟨l.dropLast, l.getLast this, (List.dropLast_concat_getLast this).symm⟩
  have hk : k.length = n := by simpa using hl
  have hg : (a.get (a.len - 1)).ab = d := by
   rw [hlen]
   have := ha.get (i := n) (d := d) (by simp [<- hk])
   rw [<- this]; congr 2; simp; omega
  have hok : Ok k := fun x hx => ho x (by simp [hx])
  by_cases h0 : d = 0
  ·subst h0
   have hs : a8 (a.sub 0 (a.len - 1)) k := by
    have := ha.sub (i := 0) (j := n) (by omega) (by simp; omega)
    rw [List.take_left' hk] at this
    rw [hlen]
    simpa [hk] using this
   obtain ⟨r, r1, r2⟩ := ih x (a.sub 0 (a.len - 1)) k hk hs hok (by omega)
   refine ⟨r, ?_, Comes.step aa dw.p1 [] ?_ r2⟩
   ·rw [m9]; simpa [val] using r1
   ·simp [HM, FT, IB, ag, E.b, E.i, E.v, Env.ext, Sub.ev, aD, ao, aK, aI, aC, aE]; simp [hg]; simp at hlen; omega
  ·refine ⟨a, ?_, Comes.last aa dw.p2 [] ?_ ?_⟩
   ·rw [B4 _ ho (by simp [h0])]; exact ha
   ·simp [HM, FT, IB, ag, E.b, E.i, E.v, Env.ext, Sub.ev, aD, ao, aK, aI, aC, aE]; simp [hg]; simp at hlen; omega
   ·simp [HM, FT, IB, ag, E.b, E.i, E.v, Env.ext, Sub.ev, aD, ao, aK, aI, aC, aE]
theorem lY {a : V} {l : List Nat} (ha : a8 a l) (ho : Ok l) (hn : l.length <= 8796093021696) : ∃ r, a8 r (dg (val l)) /\ Fn prog dw.f [a] r := by
 obtain ⟨r, r1, r2⟩ := B6 l.length a a l rfl ha ho hn
 refine ⟨r, r1, Fn.of (C := dw.K) dw.b ?_⟩
 exact Comes.step aa dw.p0 [] trivial r2
def jc (m n : Nat) : Int := if m < n then -1 else if n < m then 1 else 0
theorem vS {a b : V} {l k : List Nat} (ha : a8 a l) (hb : a8 b k) (hl : Ok l) (hk : Ok k) (he : l.length = k.length) (hn : l.length <= 8796093021696) : ∀ (j : Nat) (i : Int), i = (j : Int) - 1 -> j <= l.length -> Comes br.K br.f br.s1 ⟨[i], [], [a, b]⟩ (.int (jc (val (l.take j)) (val (k.take j)))) := by
 have la := ha.len
 have lb := hb.len
 intro j
 induction j with
 | zero =>
  intro i hi hj
  subst hi
  refine Comes.last aa br.p6 [] ?_ ?_
  ·simp [HM, FT, IB, ag, E.b, E.i, E.v, Env.ext, Sub.ev, aD, ao, aK, aI, aC, aE]
  ·simp [HM, FT, IB, ag, E.b, E.i, E.v, Env.ext, Sub.ev, aD, ao, aK, aI, aC, aE]; simp [jc, val]
 | succ j ih =>
  intro i hi hj
  obtain ⟨d, hd⟩ : ∃ d, l[j]? = some d := ⟨l[j], List.getElem?_eq_getElem (by omega)⟩
  obtain ⟨e, hee⟩ : ∃ d, k[j]? = some d := ⟨k[j], List.getElem?_eq_getElem (by omega)⟩
  have hi' : i = (j : Int) := by omega
  subst hi'
  have ga := ha.get hd
  have gb := hb.get hee
  have v1 := gG l j d hd
  have v2 := gG k j e hee
  have b1 : val (l.take j) < pw j := by
   have := eE (l := l.take j) (fun x hx => hl x (List.mem_of_mem_take hx))
   rwa [List.length_take, Nat.min_eq_left (by omega)] at this
  have b2 : val (k.take j) < pw j := by
   have := eE (l := k.take j) (fun x hx => hk x (List.mem_of_mem_take hx))
   rwa [List.length_take, Nat.min_eq_left (by omega)] at this
  rcases Nat.lt_trichotomy d e with q | q | q
  ·have hv : val (l.take (j + 1)) < val (k.take (j + 1)) := by
    have := Nat.mul_le_mul_left (pw j) (show d + 1 <= e from q)
    rw [Nat.mul_add] at this; omega
   refine Comes.last aa br.p3 [] ?_ ?_
   ·simp [HM, FT, IB, ag, E.b, E.i, E.v, Env.ext, Sub.ev, aD, ao, aK, aI, aC, aE]; rw [ga, gb]; omega
   ·simp [HM, FT, IB, ag, E.b, E.i, E.v, Env.ext, Sub.ev, aD, ao, aK, aI, aC, aE]; simp [jc, hv]
  ·subst q
   have hv : jc (val (l.take (j + 1))) (val (k.take (j + 1))) = jc (val (l.take j)) (val (k.take j)) := by
    unfold jc
    rw [v1, v2]
    split <;> split <;> (try split) <;> (try split) <;> omega
   rw [hv]
   refine Comes.step aa br.p5 [] ?_ (ih ((j : Int) - 1) rfl (by omega))
   simp [HM, FT, IB, ag, E.b, E.i, E.v, Env.ext, Sub.ev, aD, ao, aK, aI, aC, aE]; rw [ga, gb]; omega
  ·have hv : val (k.take (j + 1)) < val (l.take (j + 1)) := by
    have := Nat.mul_le_mul_left (pw j) (show e + 1 <= d from q)
    rw [Nat.mul_add] at this; omega
   refine Comes.last aa br.p4 [] ?_ ?_
   ·simp [HM, FT, IB, ag, E.b, E.i, E.v, Env.ext, Sub.ev, aD, ao, aK, aI, aC, aE]; rw [ga, gb]; omega
   ·simp [HM, FT, IB, ag, E.b, E.i, E.v, Env.ext, Sub.ev, aD, ao, aK, aI, aC, aE]; simp [jc, hv]; omega
theorem uO {m n : Nat} (h : (dg m).length < (dg n).length) : m < n := by
 have h1 := (ie n (dg m).length).1 h
 have h2 := eE (gX m)
 rw [eF] at h2
 have := Nat.div_mul_le_self n (pw (dg m).length)
 have h3 : 1 <= n / pw (dg m).length := Nat.pos_of_ne_zero h1
 have := Nat.mul_le_mul_right (pw (dg m).length) h3
 omega
theorem oG {a b : V} {m n : Nat} (ha : a8 a (dg m)) (hb : a8 b (dg n)) (hm : (dg m).length <= 8796093021696) : Fn prog br.f [a, b] (.int (jc m n)) := by
 have la := ha.len
 have lb := hb.len
 refine Fn.of (C := br.K) br.b ?_
 rcases Nat.lt_trichotomy (dg m).length (dg n).length with q | q | q
 ·have := uO q
  refine Comes.last aa br.p0 [] ?_ ?_
  ·simp [HM, FT, IB, ag, E.b, E.i, E.v, Env.ext, Sub.ev, aD, ao, aK, aI, aC, aE]; omega
  ·simp [HM, FT, IB, ag, E.b, E.i, E.v, Env.ext, Sub.ev, aD, ao, aK, aI, aC, aE]; simp [jc, this]
 ·have k := vS ha hb (gX m) (gX n) q hm (dg m).length ((dg m).length - 1) rfl (Nat.le_refl _)
  rw [List.take_length, q, List.take_length, eF, eF, <- q, <- la] at k
  refine Comes.step aa br.p2 [] ?_ k
  simp [HM, FT, IB, ag, E.b, E.i, E.v, Env.ext, Sub.ev, aD, ao, aK, aI, aC, aE]; omega
 ·have := uO q
  refine Comes.last aa br.p1 [] ?_ ?_
  ·simp [HM, FT, IB, ag, E.b, E.i, E.v, Env.ext, Sub.ev, aD, ao, aK, aI, aC, aE]; omega
  ·simp [HM, FT, IB, ag, E.b, E.i, E.v, Env.ext, Sub.ev, aD, ao, aK, aI, aC, aE]; simp [jc, this]; omega
end X
namespace X
open Go Go.a9 Go.Sym
theorem yJ {a b : V} {m n : Nat} (ha : a8 a (dg m)) (hb : a8 b (dg n)) (hmn : n <= m) (hl : (dg m).length <= 1000000000) : ∀ (g i c : Nat) (i' c' : Int) (x y out : V) (l : List Nat), g + i = (dg m).length -> i' = i -> c' = c -> c <= 1 -> a8 out l -> Ok l -> l.length = i -> val l + pw i * (m / pw i) + n = m + pw i * (n / pw i + c) -> ∃ r, a8 r (dg (m - n)) /\ Comes bU.K bU.f bU.s1 ⟨[c', i'], [], [a, b, out]⟩ r := by
 have la := ha.len
 have lb := hb.len
 intro g
 induction g with
 | zero =>
  intro i c i' c' x y out l hg hi hc hc1 hout hok hli hv
  subst hi hc
  have hp : m / pw i = 0 := by
   have := ie m i
   exact Decidable.byContradiction fun q => by have := this.2 q; omega
  have hq : n / pw i = 0 := by
   have := Nat.div_le_div_right (c := pw i) hmn
   rw [hp] at this
   exact Nat.le_zero.1 this
  have hlt : val l < pw i := by rw [<- hli]; exact eE hok
  rw [hp, hq] at hv
  have hc0 : c = 0 := by
   rcases (show c = 0 \/ c = 1 by omega) with q | q
   ·exact q
   ·subst q; rw [Nat.mul_zero, Nat.zero_add, Nat.mul_one] at hv; omega
  subst hc0
  simp only [Nat.mul_zero, Nat.add_zero] at hv
  have hv' : val l = m - n := by omega
  obtain ⟨r, r1, r2⟩ := lY hout hok (by omega)
  rw [hv'] at r1
  refine ⟨r, r1, Comes.last aa bU.p5 [r] ?_ ?_⟩
  ·simp [HM, FT, IB, ag, E.b, E.i, E.v, Env.ext, Sub.ev, aD, ao, aK, aI, aC, aE]; exact ⟨by omega, r2⟩
  ·simp [HM, FT, IB, ag, E.b, E.i, E.v, Env.ext, Sub.ev, aD, ao, aK, aI, aC, aE]
 | succ g ih =>
  intro i c i' c' x y out l hg hi hc hc1 hout hok hli hv
  subst hi hc
  have hp : m / pw i ≠ 0 := (ie m i).1 (by omega)
  have gm := lU m i
  rw [if_neg hp] at gm
  have ga := ha.get gm
  have hout' := hout.len
  have hP := Nat.div_add_mod (m / pw i) 10000
  have hQ := Nat.div_add_mod (n / pw i) 10000
  rw [<- sZ, b8] at hP hQ
  have lm : i < (dg m).length := by omega
  have key : ∀ (d c2 : Nat), d + c + n / pw i % 10000 = m / pw i % 10000 + 10000 * c2 -> val (l ++ [d]) + pw (i + 1) * (m / pw (i + 1)) + n = m + pw (i + 1) * (n / pw (i + 1) + c2) := by
   intro d c2 hd
   rw [m9, hli]
   simp only [val]
   rw [<- hP, <- hQ] at hv
   rw [b8]
   generalize m / pw i % 10000 = p at *
   generalize n / pw i % 10000 = q at *
   have hd' := congrArg (pw i * ·) hd
   simp only [Nat.mul_add, Nat.mul_zero, Nat.add_zero, Nat.mul_assoc] at hd' hv ⊢
   generalize m / (10000 * pw i) = M at *
   generalize n / (10000 * pw i) = N at *
   have e1 : pw i * (10000 * M) = 10000 * (pw i * M) := Nat.mul_left_comm _ _ _
   have e2 : pw i * (10000 * N) = 10000 * (pw i * N) := Nat.mul_left_comm _ _ _
   have e3 : pw i * (10000 * c2) = 10000 * (pw i * c2) := Nat.mul_left_comm _ _ _
   omega
  have hp1 : m / pw i % 10000 < 10000 := Nat.mod_lt _ (by omega)
  have hq1 : n / pw i % 10000 < 10000 := Nat.mod_lt _ (by omega)
  have snoc : ∀ (d : Nat) (z : Int), z = d -> a8 (out.snoc (.int z)) (l ++ [d]) := by intro d z e; subst e; exact hout.snoc d
  have okd : ∀ (d : Nat), d < 10000 -> Ok (l ++ [d]) := fun d h => hok.app (by intro z hz; simp at hz; omega)
  have li1 : ∀ d : Nat, (l ++ [d]).length = i + 1 := by intro d; simp [hli]
  by_cases hb0 : n / pw i = 0
  ·have hbl : (dg n).length <= i := Nat.le_of_not_lt fun q => (ie n i).1 q hb0
   have hq0 : n / pw i % 10000 = 0 := by rw [hb0]
   rw [hq0] at key hq1
   generalize m / pw i % 10000 = p at *
   by_cases hd : (p : Int) - c < 0
   ·obtain ⟨r, r1, r2⟩ := ih (i + 1) 1 ((i : Int) + 1) 1 x y (out.snoc (.int ((a.get i).ab - c + 10000))) (l ++ [p + 10000 - c]) (by omega) (by omega) rfl (by omega) (snoc _ _ (by rw [ga]; omega)) (okd _ (by omega)) (li1 _) (key _ 1 (by omega))
    refine ⟨r, r1, Comes.step aa bU.p3 [] ?_ r2⟩
    simp [HM, FT, IB, ag, E.b, E.i, E.v, Env.ext, Sub.ev, aD, ao, aK, aI, aC, aE]; rw [ga]; omega
   ·obtain ⟨r, r1, r2⟩ := ih (i + 1) 0 ((i : Int) + 1) 0 x y (out.snoc (.int ((a.get i).ab - c))) (l ++ [p - c]) (by omega) (by omega) rfl (by omega) (snoc _ _ (by rw [ga]; omega)) (okd _ (by omega)) (li1 _) (key _ 0 (by omega))
    refine ⟨r, r1, Comes.step aa bU.p4 [] ?_ r2⟩
    simp [HM, FT, IB, ag, E.b, E.i, E.v, Env.ext, Sub.ev, aD, ao, aK, aI, aC, aE]; rw [ga]; omega
  ·have hbl : i < (dg n).length := (ie n i).2 hb0
   have gn := lU n i
   rw [if_neg hb0] at gn
   have gb := hb.get gn
   generalize m / pw i % 10000 = p at *
   generalize n / pw i % 10000 = q at *
   by_cases hd : (p : Int) - c - q < 0
   ·obtain ⟨r, r1, r2⟩ := ih (i + 1) 1 ((i : Int) + 1) 1 x y (out.snoc (.int ((a.get i).ab - c - (b.get i).ab + 10000))) (l ++ [p + 10000 - c - q]) (by omega) (by omega) rfl (by omega) (snoc _ _ (by rw [ga, gb]; omega)) (okd _ (by omega)) (li1 _) (key _ 1 (by omega))
    refine ⟨r, r1, Comes.step aa bU.p1 [] ?_ r2⟩
    simp [HM, FT, IB, ag, E.b, E.i, E.v, Env.ext, Sub.ev, aD, ao, aK, aI, aC, aE]; rw [ga, gb]; omega
   ·obtain ⟨r, r1, r2⟩ := ih (i + 1) 0 ((i : Int) + 1) 0 x y (out.snoc (.int ((a.get i).ab - c - (b.get i).ab))) (l ++ [p - c - q]) (by omega) (by omega) rfl (by omega) (snoc _ _ (by rw [ga, gb]; omega)) (okd _ (by omega)) (li1 _) (key _ 0 (by omega))
    refine ⟨r, r1, Comes.step aa bU.p2 [] ?_ r2⟩
    simp [HM, FT, IB, ag, E.b, E.i, E.v, Env.ext, Sub.ev, aD, ao, aK, aI, aC, aE]; rw [ga, gb]; omega
theorem yI {a b : V} {m n : Nat} (ha : a8 a (dg m)) (hb : a8 b (dg n)) (hmn : n <= m) (hl : (dg m).length <= 1000000000) : ∃ r, a8 r (dg (m - n)) /\ Fn prog bU.f [a, b] r := by
 obtain ⟨r, r1, r2⟩ := yJ ha hb hmn hl (dg m).length 0 0 0 0 .nil .nil .nil [] (by omega) rfl rfl (by omega) jX (by intro x hx; simp at hx) rfl (by simp [val, dk])
 refine ⟨r, r1, Fn.of (C := bU.K) bU.b ?_⟩
 exact Comes.step aa bU.p0 [] trivial r2
end X
namespace X
open Go Go.a9 Go.Sym
theorem zE (n : Nat) (z : Int) (h : z = n) : z.tdiv 10000 = ((n / 10000 : Nat) : Int) := by subst h; rw [Int.tdiv_eq_ediv_of_nonneg (by omega)]; rfl
theorem C8 (n : Nat) (z : Int) (h : z = n) : z.tmod 10000 = ((n % 10000 : Nat) : Int) := by subst h; rw [Int.tmod_eq_emod_of_nonneg (by omega)]; rfl
theorem wv {a b : V} {l k : List Nat} {i d : Nat} (ha : a8 a l) (hb : a8 b k) (hk : ∀ x ∈ k, x <= 10000) (hvk : val k <= pw k.length) (hd : l[i]? = some d) (hd1 : d < 10000) (hvl : val (l.take (i + 1)) < pw (i + 1)) (hn : l.length + k.length <= 1000000000) {R : V -> Prop}
  (H : ∀ (out : V) (o : List Nat), a8 out o -> Ok o -> o.length = l.length + k.length -> val o = val (l.take (i + 1)) * val k -> ∃ r, R r /\ Comes bm.K bm.f bm.s1 ⟨[(i : Int) + 1], [], [a, b, out]⟩ r) :
  ∀ (t j c : Nat) (j' c' : Int) (out : V) (o : List Nat), t + (i + j) = l.length + k.length -> j' = j -> c' = c -> c <= 10000 -> a8 out o -> Ok o -> o.length = l.length + k.length -> val o + c * pw (i + j) = val (l.take i) * val k + d * (val (k.take j) * pw i) -> ∃ r, R r /\ Comes bm.K bm.f bm.s2 ⟨[c', j', (i : Int)], [], [a, b, out]⟩ r := by
 have la := ha.len
 have lb := hb.len
 have hi : i < l.length := (List.getElem?_eq_some_iff.1 hd).1
 have ga := ha.get hd
 have htk := gG l i d hd
 have hprod : ∀ j, k.length <= j -> val (l.take i) * val k + d * (val (k.take j) * pw i) = val (l.take (i + 1)) * val k := by
  intro j hj
  rw [List.take_of_length_le hj, htk, Nat.add_mul]
  congr 1
  ac_rfl
 have hbound : val (l.take (i + 1)) * val k < pw (i + 1 + k.length) := by
  rw [vp]
  exact Nat.lt_of_le_of_lt (Nat.mul_le_mul_left _ hvk) (Nat.mul_lt_mul_of_pos_right hvl (nA _))
 intro t
 induction t with
 | zero =>
  intro j c j' c' out o ht hj hc hc1 hout hok hol hv
  subst hj hc
  have hjl : k.length <= j := by omega
  have hc0 : c = 0 := by
   rcases Nat.eq_zero_or_pos c with q | q
   ·exact q
   ·exfalso
    rw [hprod j hjl] at hv
    have h1 : pw (i + 1 + k.length) <= pw (i + j) := Nat.pow_le_pow_right (by omega) (by omega)
    have h2 : pw (i + j) <= c * pw (i + j) := Nat.le_mul_of_pos_left _ q
    omega
  subst hc0
  obtain ⟨r, r1, r2⟩ := H out o hout hok hol (by rw [<- hprod j hjl, <- hv]; simp)
  refine ⟨r, r1, Comes.step aa bm.p7 [] ?_ r2⟩
  simp [HM, FT, IB, ag, E.b, E.i, E.v, Env.ext, Sub.ev, aD, ao, aK, aI, aC, aE]; omega
 | succ t ih =>
  intro j c j' c' out o ht hj hc hc1 hout hok hol hv
  subst hj hc
  have lo := hout.len
  have hij : i + j < o.length := by omega
  obtain ⟨e, he⟩ : ∃ e, o[i + j]? = some e := ⟨_, List.getElem?_eq_getElem hij⟩
  have he1 : e < 10000 := hok e (List.mem_of_getElem? he)
  have ge := hout.get he
  have setI : ∀ (x : Nat) (z : Int), z = x -> a8 (out.set ((i : Int) + j) (.int z)) (o.set (i + j) x) := by
   intro x z e; subst e; have := hout.set (i + j) x; rwa [Int.natCast_add] at this
  have vs : ∀ x, val (o.set (i + j) x) + e * pw (i + j) = val o + x * pw (i + j) := zB he
  by_cases hjk : j < k.length
  ·obtain ⟨f, hf⟩ : ∃ f, k[j]? = some f := ⟨_, List.getElem?_eq_getElem hjk⟩
   have hf1 : f <= 10000 := hk f (List.mem_of_getElem? hf)
   have gb := hb.get hf
   have hdf : d * f <= 9999 * 10000 := Nat.mul_le_mul (by omega) hf1
   have hvt := gG k j f hf
   have num : (c : Int) + (out.get ((i : Int) + j)).ab + (a.get i).ab * (b.get j).ab = ((c + e + d * f : Nat) : Int) := by
    rw [ga, gb, <- Int.natCast_add, ge]; push_cast; rfl
   have e1 := Nat.div_add_mod (c + e + d * f) 10000
   obtain ⟨r, r1, r2⟩ := ih (j + 1) ((c + e + d * f) / 10000) ((j : Int) + 1) (((c : Int) + (out.get ((i : Int) + j)).ab + (a.get i).ab * (b.get j).ab).tdiv 10000) (out.set ((i : Int) + j) (.int (((c : Int) + (out.get ((i : Int) + j)).ab + (a.get i).ab * (b.get j).ab).tmod 10000))) (o.set (i + j) ((c + e + d * f) % 10000)) (by omega) (by omega) (zE _ _ num) (by omega) (setI _ _ (C8 _ _ num)) (hok.set _ _ (by omega)) (by simp [hol]) (by
    have := vs ((c + e + d * f) % 10000)
    have e2 := congrArg (· * pw (i + j)) e1
    simp only [Nat.add_mul] at e2
    rw [hvt, show i + (j + 1) = (i + j) + 1 from rfl, b8, Nat.mul_left_comm]
    rw [Nat.mul_assoc] at e2
    have e3 : d * ((val (k.take j) + pw j * f) * pw i) = d * (val (k.take j) * pw i) + d * f * pw (i + j) := by
     rw [Nat.add_mul, Nat.mul_add, vp, Nat.mul_assoc d f, Nat.mul_comm (pw j) f, Nat.mul_assoc f, Nat.mul_comm (pw j)]
    rw [e3]
    generalize (c + e + d * f) % 10000 = A at *
    generalize (c + e + d * f) / 10000 = A' at *
    generalize A' * pw (i + j) = A2 at *
    omega)
   refine ⟨r, r1, Comes.step aa bm.p3 [] ?_ r2⟩
   have n1 := zE _ _ num
   have ge' : (out.get ((i : Int) + j)).ab = e := by rw [<- Int.natCast_add]; exact ge
   rw [ge', ga, gb] at n1
   simp [HM, FT, IB, ag, E.b, E.i, E.v, Env.ext, Sub.ev, aD, ao, aK, aI, aC, aE]
   rw [ge', ga, gb, n1]
   have : ((d : Int) * f) = ((d * f : Nat) : Int) := by push_cast; rfl
   rw [this]
   omega
  ·have hjl : k.length <= j := by omega
   rcases Nat.eq_zero_or_pos c with q | q
   ·subst q
    obtain ⟨r, r1, r2⟩ := H out o hout hok hol (by rw [<- hprod j hjl, <- hv]; simp)
    refine ⟨r, r1, Comes.step aa bm.p7 [] ?_ r2⟩
    simp [HM, FT, IB, ag, E.b, E.i, E.v, Env.ext, Sub.ev, aD, ao, aK, aI, aC, aE]; omega
   ·have num : (c : Int) + (out.get ((i : Int) + j)).ab = ((c + e : Nat) : Int) := by
     rw [<- Int.natCast_add, ge]; push_cast; rfl
    have e1 := Nat.div_add_mod (c + e) 10000
    obtain ⟨r, r1, r2⟩ := ih (j + 1) ((c + e) / 10000) ((j : Int) + 1) (((c : Int) + (out.get ((i : Int) + j)).ab).tdiv 10000) (out.set ((i : Int) + j) (.int (((c : Int) + (out.get ((i : Int) + j)).ab).tmod 10000))) (o.set (i + j) ((c + e) % 10000)) (by omega) (by omega) (zE _ _ num) (by omega) (setI _ _ (C8 _ _ num)) (hok.set _ _ (by omega)) (by simp [hol]) (by
     have := vs ((c + e) % 10000)
     have e2 := congrArg (· * pw (i + j)) e1
     simp only [Nat.add_mul] at e2
     rw [List.take_of_length_le (l := k) (i := j + 1) (by omega), show i + (j + 1) = (i + j) + 1 from rfl, b8, Nat.mul_left_comm]
     rw [List.take_of_length_le (l := k) (i := j) (by omega)] at hv
     rw [Nat.mul_assoc] at e2
     generalize (c + e) % 10000 = A at *
     generalize (c + e) / 10000 = A' at *
     generalize A' * pw (i + j) = A2 at *
     omega)
    refine ⟨r, r1, Comes.step aa bm.p6 [] ?_ r2⟩
    have n1 := zE _ _ num
    have ge' : (out.get ((i : Int) + j)).ab = e := by rw [<- Int.natCast_add]; exact ge
    rw [ge'] at n1
    simp [HM, FT, IB, ag, E.b, E.i, E.v, Env.ext, Sub.ev, aD, ao, aK, aI, aC, aE]
    rw [ge', n1]
    omega
theorem rS {a b : V} {l k : List Nat} (ha : a8 a l) (hb : a8 b k) (hl : Ok l) (hk : ∀ x ∈ k, x <= 10000) (hvk : val k <= pw k.length) (hn : l.length + k.length <= 1000000000) : ∃ r, a8 r (dg (val l * val k)) /\ Fn prog bm.f [a, b] r := by
 have la := ha.len
 have lb := hb.len
 have outer : ∀ (t i : Nat) (i' : Int) (out : V) (o : List Nat), t + i = l.length -> i' = i -> a8 out o -> Ok o -> o.length = l.length + k.length -> val o = val (l.take i) * val k -> ∃ r, a8 r (dg (val l * val k)) /\ Comes bm.K bm.f bm.s1 ⟨[i'], [], [a, b, out]⟩ r := by
  intro t
  induction t with
  | zero =>
   intro i i' out o ht hi hout hok hol hv
   subst hi
   obtain ⟨r, r1, r2⟩ := lY hout hok (by omega)
   rw [hv, List.take_of_length_le (by omega)] at r1
   refine ⟨r, r1, Comes.last aa bm.p2 [r] ?_ ?_⟩
   ·simp [HM, FT, IB, ag, E.b, E.i, E.v, Env.ext, Sub.ev, aD, ao, aK, aI, aC, aE]; exact ⟨by omega, r2⟩
   ·simp [HM, FT, IB, ag, E.b, E.i, E.v, Env.ext, Sub.ev, aD, ao, aK, aI, aC, aE]
  | succ t ih =>
   intro i i' out o ht hi hout hok hol hv
   subst hi
   have hil : i < l.length := by omega
   obtain ⟨d, hd⟩ : ∃ e, l[i]? = some e := ⟨_, List.getElem?_eq_getElem hil⟩
   have hd1 : d < 10000 := hl d (List.mem_of_getElem? hd)
   have hvl : val (l.take (i + 1)) < pw (i + 1) := by
    have := eE (l := l.take (i + 1)) (fun x hx => hl x (List.mem_of_mem_take hx))
    rwa [List.length_take, Nat.min_eq_left (by omega)] at this
   obtain ⟨r, r1, r2⟩ := wv ha hb hk hvk hd hd1 hvl hn (R := fun r => a8 r (dg (val l * val k))) (fun out' o' h1 h2 h3 h4 => ih (i + 1) ((i : Int) + 1) out' o' (by omega) (by omega) h1 h2 h3 h4) (l.length + k.length - i) 0 0 0 0 out o (by omega) rfl rfl (by omega) hout hok hol (by simp [hv, val])
   refine ⟨r, r1, Comes.step aa bm.p1 [] ?_ r2⟩
   simp [HM, FT, IB, ag, E.b, E.i, E.v, Env.ext, Sub.ev, aD, ao, aK, aI, aC, aE]; omega
 obtain ⟨r, r1, r2⟩ := outer l.length 0 0 (V.rep (a.len + b.len) (.int 0)) (List.replicate (l.length + k.length) 0) (by omega) rfl (by rw [la, lb, <- Int.natCast_add]; exact a8.rep _ 0) (by intro x hx; have := List.eq_of_mem_replicate hx; omega) (by simp) (by rw [zC]; simp [val])
 refine ⟨r, r1, Fn.of (C := bm.K) bm.b ?_⟩
 refine Comes.step aa bm.p0 [] ?_ r2
 simp [HM, FT, IB, ag, E.b, E.i, E.v, Env.ext, Sub.ev, aD, ao, aK, aI, aC, aE]; omega
end X
namespace X
open Go Go.a9 Go.Sym
theorem CG {R n E : Nat} (hE : 0 < E) (hn : 0 < n) : (R / E) / (n / E + 1) <= R / n := by
 rw [Nat.le_div_iff_mul_le hn]
 have h1 := Nat.div_mul_le_self (R / E) (n / E + 1)
 have h2 := Nat.div_mul_le_self R E
 have h3 : n <= (n / E + 1) * E := by
  have := Nat.div_add_mod n E
  have := Nat.mod_lt n hE
  rw [Nat.add_mul, Nat.one_mul, Nat.mul_comm (n / E)]; omega
 calc R / E / (n / E + 1) * n <= R / E / (n / E + 1) * ((n / E + 1) * E) := Nat.mul_le_mul_left _ h3
  _ = R / E / (n / E + 1) * (n / E + 1) * E := by rw [Nat.mul_assoc]
  _ <= R / E * E := Nat.mul_le_mul_right _ h1
  _ <= R := h2
theorem CH {R n E : Nat} (hE : 0 < E) (hT : 0 < n / E) : R / n <= (R / E) / (n / E) := by
 rw [Nat.le_div_iff_mul_le hT, Nat.le_div_iff_mul_le hE, Nat.mul_assoc]
 calc R / n * (n / E * E) <= R / n * n := Nat.mul_le_mul_left _ (Nat.div_mul_le_self n E)
  _ <= R := Nat.div_mul_le_self R n
theorem Bv {R n E : Nat} (hE : 0 < E) (hR : R < n * 10000) (h : E = 1 \/ 10000 <= n / E) : (R / E) / (n / E) <= 10000 := by
 rcases h with rfl | h
 ·rw [Nat.div_one, Nat.div_one]
  rcases Nat.eq_zero_or_pos n with q | q
  ·subst q; simp
  ·have := (Nat.div_lt_iff_lt_mul q).2 (show R < 10000 * n by omega)
   omega
 ·have h3 : n < (n / E + 1) * E := by
   have := Nat.div_add_mod n E
   have := Nat.mod_lt n hE
   rw [Nat.add_mul, Nat.one_mul, Nat.mul_comm (n / E)]; omega
  have h4 : R / E < (n / E + 1) * 10000 := by
   rw [Nat.div_lt_iff_lt_mul hE]
   calc R < n * 10000 := hR
    _ <= (n / E + 1) * E * 10000 := Nat.mul_le_mul_right _ (by omega)
    _ = (n / E + 1) * 10000 * E := by ac_rfl
  have h5 : R / E / (n / E) < 10001 := by
   rw [Nat.div_lt_iff_lt_mul (by omega)]
   generalize n / E = T at *
   omega
  omega
theorem tL {a b q0 q rest : V} {n R : Nat} (hn : 0 < n) (hb : a8 b (dg n)) (hr : a8 rest (dg R)) (hR : R < n * 10000) (hl : (dg n).length <= 100000000) {Q : V -> Prop} (z : List Int) (hz : z.length = 7) (i : Int)
  (H : ∃ r, Q r /\ Comes az.K az.f az.s3 ⟨[((R / n : Nat) : Int), ((R / n : Nat) : Int)] ++ z ++ [i], [], [a, b, q0, q, rest]⟩ r) :
  ∀ (t low high : Nat) (low' high' : Int), t + low = high -> low' = low -> high' = high -> low <= R / n -> R / n <= high -> high <= 10000 -> ∃ r, Q r /\ Comes az.K az.f az.s3 ⟨[low', high'] ++ z ++ [i], [], [a, b, q0, q, rest]⟩ r := by
 obtain ⟨z0, z1, z2, z3, z4, z5, z6, rfl⟩ : ∃ z0 z1 z2 z3 z4 z5 z6, z = [z0, z1, z2, z3, z4, z5, z6] := by
  match z, hz with
  | [z0, z1, z2, z3, z4, z5, z6], _ => exact ⟨z0, z1, z2, z3, z4, z5, z6, rfl⟩
 intro t
 induction t using Nat.strongRecOn with
 | _ t ih =>
  intro low high low' high' ht h1 h2 h3 h4 h5
  subst h1 h2
  by_cases hlh : low = high
  ·subst hlh
   have : R / n = low := by omega
   rw [this] at H
   exact H
  ·have hlen1 : (dg (n * ((low + high + 1) / 2))).length <= 100000001 := by
    have h1 : n < pw (dg n).length := by have := eE (gX n); rwa [eF] at this
    have h2 : n * ((low + high + 1) / 2) <= n * 10000 := Nat.mul_le_mul_left _ (by omega)
    have := h7 (n := n * ((low + high + 1) / 2)) (k := (dg n).length + 1) (by rw [b8]; omega)
    omega
   have hmid : ((low : Int) + high + 1).tdiv 2 = (((low + high + 1) / 2 : Nat) : Int) := by
    rw [Int.tdiv_eq_ediv_of_nonneg (by omega)]; omega
   generalize hm : (low + high + 1) / 2 = mid at *
   have hI : a8 ((V.list []).snoc (.int (((low : Int) + high + 1).tdiv 2))) [mid] := by rw [hmid]; exact lH.snoc mid
   obtain ⟨r5, r51, r52⟩ := rS hb hI (gX n) (by intro x hx; simp at hx; omega) (by simp [val, b8, dk]; omega) (by simp; omega)
   rw [eF] at r51
   simp only [val, Nat.mul_zero, Nat.add_zero] at r51
   have r6 := oG r51 hr (by omega)
   by_cases hc : n * mid <= R
   ·obtain ⟨r, r1, r2⟩ := ih (high - mid) (by omega) mid high (((low : Int) + high + 1).tdiv 2) high (by omega) hmid rfl (by rw [Nat.le_div_iff_mul_le hn, Nat.mul_comm]; exact hc) h4 h5
    refine ⟨r, r1, Comes.step aa az.p9 [r5, .int (jc (n * mid) R)] ?_ r2⟩
    simp [HM, FT, IB, ag, E.b, E.i, E.v, Env.ext, Sub.ev, aD, ao, aK, aI, aC, aE]
    refine ⟨by omega, by omega, by omega, by omega, r52, r6, ?_⟩
    show jc _ _ <= 0
    unfold jc; split <;> (try split) <;> omega
   ·have hq : R / n < mid := by rw [Nat.div_lt_iff_lt_mul hn, Nat.mul_comm]; omega
    obtain ⟨r, r1, r2⟩ := ih (mid - 1 - low) (by omega) low (mid - 1) low (((low : Int) + high + 1).tdiv 2 - 1) (by omega) rfl (by omega) h3 (by omega) (by omega)
    refine ⟨r, r1, Comes.step aa az.CI [r5, .int (jc (n * mid) R)] ?_ r2⟩
    simp [HM, FT, IB, ag, E.b, E.i, E.v, Env.ext, Sub.ev, aD, ao, aK, aI, aC, aE]
    refine ⟨by omega, by omega, by omega, by omega, r52, r6, ?_, by omega⟩
    show 0 < jc _ _
    unfold jc; split <;> (try split) <;> omega
theorem vQ {a b q0 q rest : V} {n R N : Nat} (hN : N + 1 = (dg n).length) (hb : a8 b (dg n)) (hr : a8 rest (dg R)) (hR : R < n * 10000) (hl : (dg n).length <= 100000000) {Q : V -> Prop} (i : Int)
  (H : ∃ r, Q r /\ Comes az.K az.f az.s2 ⟨[((n / pw (N - 1) : Nat) : Int), ((R / pw (N - 1) : Nat) : Int), ((N - 1 : Nat) : Int) - 1, i], [], [a, b, q0, q, rest]⟩ r) :
  ∀ (t j : Nat) (top first k : Int), t + (N - 1) = j -> j <= N + 2 -> top = ((n / pw j : Nat) : Int) -> first = ((R / pw j : Nat) : Int) -> k = (j : Int) - 1 -> ∃ r, Q r /\ Comes az.K az.f az.s2 ⟨[top, first, k, i], [], [a, b, q0, q, rest]⟩ r := by
 have lb := hb.len
 have lr := hr.len
 have hnl : n < pw (N + 1) := by have := eE (gX n); rwa [eF, <- hN] at this
 intro t
 induction t with
 | zero =>
  intro j top first k ht hj h1 h2 h3
  rw [Nat.zero_add] at ht
  subst ht h1 h2 h3
  exact H
 | succ t ih =>
  intro j top first k ht hj h1 h2 h3
  obtain ⟨g, rfl⟩ : ∃ g, j = g + 1 := ⟨j - 1, by omega⟩
  subst h1 h2 h3
  have hk : ((g + 1 : Nat) : Int) - 1 = g := by omega
  rw [hk]
  have dn := sZ n g
  have dR := sZ R g
  have an := Nat.div_add_mod (n / pw g) 10000
  have aR := Nat.div_add_mod (R / pw g) 10000
  rw [<- dn] at an
  rw [<- dR] at aR
  have hpN : pw N <= pw (g + 1) := Nat.pow_le_pow_right (by omega) (by omega)
  have hpS := b8 N
  have bigR : R / pw (g + 1) < 1000000000000 := by
   rw [Nat.div_lt_iff_lt_mul (nA _)]
   omega
  have bign : n / pw (g + 1) < 1000000000000 := by
   rw [Nat.div_lt_iff_lt_mul (nA _)]
   omega
  have mx : vA 0 ((b.len : Int) - 1 - 1) <= g := by unfold vA; split <;> omega
  have hmx : max (0 : Int) 0 = 0 := rfl
  have hR1 : R / pw g % 10000 < 10000 := Nat.mod_lt _ (by omega)
  have hn1 : n / pw g % 10000 < 10000 := Nat.mod_lt _ (by omega)
  by_cases hgr : g < (dg R).length
  ·have g1 := lU R g
   rw [if_neg ((ie R g).1 hgr)] at g1
   have gr := hr.get g1
   by_cases hgn : g < (dg n).length
   ·have g2 := lU n g
    rw [if_neg ((ie n g).1 hgn)] at g2
    have gn := hb.get g2
    obtain ⟨r, r1, r2⟩ := ih g (((n / pw (g + 1) : Nat) : Int) * 10000 + (b.get g).ab) (((R / pw (g + 1) : Nat) : Int) * 10000 + (rest.get g).ab) ((g : Int) - 1) (by omega) (by omega) (by rw [gn]; omega) (by rw [gr]; omega) rfl
    refine ⟨r, r1, Comes.step aa az.p4 [] ?_ r2⟩
    simp only [HM, FT, IB, ag, E.b, E.i, E.v, Env.ext, List.getD_cons_zero, List.getD_cons_succ, List.append_nil, aD, ao, Bool.and_eq_true, Bool.not_eq_true', aC, aE, and_true, gn, gr]
    omega
   ·have z1 : n / pw g = 0 := Decidable.byContradiction fun q => hgn ((ie n g).2 q)
    obtain ⟨r, r1, r2⟩ := ih g (((n / pw (g + 1) : Nat) : Int)) (((R / pw (g + 1) : Nat) : Int) * 10000 + (rest.get g).ab) ((g : Int) - 1) (by omega) (by omega) (by rw [dn, z1]) (by rw [gr]; omega) rfl
    refine ⟨r, r1, Comes.step aa az.p5 [] ?_ r2⟩
    simp only [HM, FT, IB, ag, E.b, E.i, E.v, Env.ext, List.getD_cons_zero, List.getD_cons_succ, List.append_nil, aD, ao, Bool.and_eq_true, Bool.not_eq_true', aC, aE, and_true, gr]
    omega
  ·have z0 : R / pw g = 0 := Decidable.byContradiction fun q => hgr ((ie R g).2 q)
   have z0' : R / pw (g + 1) = 0 := by rw [dR, z0]
   by_cases hgn : g < (dg n).length
   ·have g2 := lU n g
    rw [if_neg ((ie n g).1 hgn)] at g2
    have gn := hb.get g2
    obtain ⟨r, r1, r2⟩ := ih g (((n / pw (g + 1) : Nat) : Int) * 10000 + (b.get g).ab) (((R / pw (g + 1) : Nat) : Int) * 10000) ((g : Int) - 1) (by omega) (by omega) (by rw [gn]; omega) (by omega) rfl
    refine ⟨r, r1, Comes.step aa az.p6 [] ?_ r2⟩
    simp only [HM, FT, IB, ag, E.b, E.i, E.v, Env.ext, List.getD_cons_zero, List.getD_cons_succ, List.append_nil, aD, ao, Bool.and_eq_true, Bool.not_eq_true', aC, aE, and_true, gn]
    omega
   ·have z1 : n / pw g = 0 := Decidable.byContradiction fun q => hgn ((ie n g).2 q)
    obtain ⟨r, r1, r2⟩ := ih g (((n / pw (g + 1) : Nat) : Int)) (((R / pw (g + 1) : Nat) : Int) * 10000) ((g : Int) - 1) (by omega) (by omega) (by rw [dn, z1]) (by omega) rfl
    refine ⟨r, r1, Comes.step aa az.p7 [] ?_ r2⟩
    simp only [HM, FT, IB, ag, E.b, E.i, E.v, Env.ext, List.getD_cons_zero, List.getD_cons_succ, List.append_nil, aD, ao, Bool.and_eq_true, Bool.not_eq_true', aC, aE, and_true]
    omega
end X
namespace X
open Go Go.a9 Go.Sym
theorem CF {n i : Nat} (h : i < n) : (List.replicate n 0)[i]? = some 0 := by simp [h]
theorem lP {a b : V} {m n : Nat} (ha : a8 a (dg m)) (hb : a8 b (dg n)) (hn : 0 < n) (lm : (dg m).length <= 50000000) (ln : (dg n).length <= 50000000) : ∃ x y, a8 x (dg (m / n)) /\ a8 y (dg (m % n)) /\ Fn prog az.f [a, b] (.list [x, y]) := by
 have la := ha.len
 have lb := hb.len
 have hnl : n < pw (dg n).length := by have := eE (gX n); rwa [eF] at this
 have hml : m < pw (dg m).length := by have := eE (gX m); rwa [eF] at this
 have hnp : 0 < (dg n).length := (ie n 0).2 (by rw [dk]; simp; omega)
 obtain ⟨N, hN⟩ : ∃ N, N + 1 = (dg n).length := ⟨(dg n).length - 1, by omega⟩
 have hNp : pw N <= n := by
  have := (ie n N).1 (by omega)
  have h1 : 1 <= n / pw N := Nat.pos_of_ne_zero this
  rwa [Nat.le_div_iff_mul_le (nA _), Nat.one_mul] at h1
 by_cases hs : (dg m).length <= N
 ·have hmn : m < n := by
   have : pw (dg m).length <= pw N := Nat.pow_le_pow_right (by omega) hs
   omega
  refine ⟨.nil, (V.list []).app a, ?_, ?_, Fn.of (C := az.K) az.b ?_⟩
  ·rw [Nat.div_eq_of_lt hmn]; exact jX
  ·rw [Nat.mod_eq_of_lt hmn]; exact lH.app ha
  ·refine Comes.last aa az.p0 [] ?_ ?_
   ·simp [HM, FT, IB, ag, E.b, E.i, E.v, Env.ext, Sub.ev, aD, ao, aK, aI, aC, aE]; omega
   ·simp [HM, FT, IB, ag, E.b, E.i, E.v, Env.ext, Sub.ev, aD, ao, aK, aI, aC, aE]; simp [V.snoc, V.bx]
 ·have outer : ∀ (j : Nat) (i' : Int) (q0 q rest : V) (l : List Nat), j <= (dg m).length - N -> i' = (j : Int) - 1 -> a8 rest (dg (m / pw j % n)) -> a8 q l -> Ok l -> l.length = (dg m).length - N -> (∀ t, t < j -> l[t]? = some 0) -> val l = pw j * (m / pw j / n) -> ∃ r, (∃ x y, r = V.list [x, y] /\ a8 x (dg (m / n)) /\ a8 y (dg (m % n))) /\ Comes az.K az.f az.s1 ⟨[i'], [], [a, b, q, rest]⟩ r := by
   intro j
   induction j with
   | zero =>
    intro i' q0 q rest l hj hi hr hq hok hl hz hv
    subst hi
    rw [dk, Nat.div_one] at hr
    rw [dk, Nat.div_one, Nat.one_mul] at hv
    obtain ⟨r, r1, r2⟩ := lY hq hok (by omega)
    rw [hv] at r1
    refine ⟨.list [r, rest], ⟨r, rest, rfl, r1, hr⟩, Comes.last aa az.p3 [r] ?_ ?_⟩
    ·simp [HM, FT, IB, ag, E.b, E.i, E.v, Env.ext, Sub.ev, aD, ao, aK, aI, aC, aE]; exact r2
    ·simp [HM, FT, IB, ag, E.b, E.i, E.v, Env.ext, Sub.ev, aD, ao, aK, aI, aC, aE]; simp [V.snoc, V.bx]
   | succ i ih =>
    intro i' q0 q rest l hj hi hr hq hok hl hz hv
    have hi' : i' = (i : Int) := by omega
    subst hi'
    have lr := hr.len
    have lq := hq.len
    have him : i < (dg m).length := by omega
    have g1 := lU m i
    rw [if_neg ((ie m i).1 him)] at g1
    have ga := ha.get g1
    have dm := sZ m i
    have am := Nat.div_add_mod (m / pw i) 10000
    rw [<- dm] at am
    have hd1 : m / pw i % 10000 < 10000 := Nat.mod_lt _ (by omega)
    generalize hD : m / pw i % 10000 = D at *
    generalize hM1 : m / pw (i + 1) = M1 at *
    have hrn : M1 % n < n := Nat.mod_lt _ hn
    generalize hRR : D + 10000 * (M1 % n) = R at *
    have hR : R < n * 10000 := by omega
    have hMR : m / pw i = n * (10000 * (M1 / n)) + R := by
     have := Nat.div_add_mod M1 n
     rw [<- am, <- hRR, Nat.mul_left_comm]
     omega
    have hmod : m / pw i % n = R % n := by rw [hMR, Nat.mul_add_mod]
    have hdiv : m / pw i / n = 10000 * (M1 / n) + R / n := by rw [hMR, Nat.mul_add_div hn]
    have hlr : (dg (M1 % n)).length <= (dg n).length := h7 (by omega)
    have hlR : (dg R).length <= (dg n).length + 1 := h7 (by rw [b8]; omega)
    -- the rest with the next digit
    have I1 : a8 (((V.list []).snoc (.int (a.get i).ab)).app rest) ([D] ++ dg (M1 % n)) := by
     rw [ga]; exact (lH.snoc D).app hr
    obtain ⟨r4, r41, r42⟩ := lY I1 (Ok.app (by intro x hx; simp at hx; omega) (gX _)) (by simp; omega)
    have hv4 : val ([D] ++ dg (M1 % n)) = R := by simp [val, eF, hRR]
    rw [hv4] at r41
    -- the digit
    have hE := nA (N - 1)
    have hT : 0 < n / pw (N - 1) := by
     have : pw (N - 1) <= n := Nat.le_trans (Nat.pow_le_pow_right (by omega) (by omega)) hNp
     exact Nat.div_pos this hE
    have hcap := Bv hE hR (by
     rcases Nat.eq_zero_or_pos N with z | z
     ·left; subst z; rfl
     ·right
      rw [Nat.le_div_iff_mul_le hE, <- b8, show N - 1 + 1 = N from by omega]; exact hNp)
    have hlo := CG (R := R) hE hn
    have hhi := CH (R := R) hE hT
    have hq9 : R / n < 10000 := by rw [Nat.div_lt_iff_lt_mul hn]; omega
    -- after the search
    have I2 : a8 ((V.list []).snoc (.int ((R / n : Nat) : Int))) [R / n] := lH.snoc _
    obtain ⟨r5, r51, r52⟩ := lY I2 (by intro x hx; simp at hx; omega) (by simp)
    simp only [val, Nat.mul_zero, Nat.add_zero] at r51
    have hq1 : (dg (R / n)).length <= 1 := h7 (by rw [b8, dk]; omega)
    obtain ⟨r6, r61, r62⟩ := rS hb r51 (gX _) (by intro x hx; have := gX _ x hx; omega) (by have := eE (gX (R / n)); omega) (by omega)
    rw [eF, eF] at r61
    obtain ⟨r7, r71, r72⟩ := yI r41 r61 (Nat.mul_div_le R n) (by omega)
    have hsub : R - n * (R / n) = m / pw i % n := by
     rw [hmod]; have := Nat.div_add_mod R n; omega
    rw [hsub] at r71
    have hset : l[i]? = some 0 := hz i (by omega)
    have vs := zB hset (R / n)
    obtain ⟨r, hr1, hr2⟩ := ih ((i : Int) - 1) q (q.set (i : Int) (.int ((R / n : Nat) : Int))) r7 (l.set i (R / n)) (by omega) rfl r71 (hq.set _ _) (hok.set _ _ hq9) (by simp [hl]) (by
      intro t ht
      rw [List.getElem?_set_ne (by omega)]; exact hz t (by omega)) (by
      rw [hdiv]
      rw [b8] at hv
      rw [Nat.mul_add]
      have : 10000 * pw i * (M1 / n) = pw i * (10000 * (M1 / n)) := by ac_rfl
      have e2 : R / n * pw i = pw i * (R / n) := Nat.mul_comm _ _
      omega)
    have S3 : ∀ z : List Int, z.length = 7 -> ∃ r, (∃ x y, r = V.list [x, y] /\ a8 x (dg (m / n)) /\ a8 y (dg (m % n))) /\ Comes az.K az.f az.s3 ⟨[((R / n : Nat) : Int), ((R / n : Nat) : Int)] ++ z ++ [(i : Int)], [], [a, b, q, q, r4]⟩ r := by
     intro z hz7
     obtain ⟨z0, z1, z2, z3, z4, z5, z6, rfl⟩ : ∃ z0 z1 z2 z3 z4 z5 z6, z = [z0, z1, z2, z3, z4, z5, z6] := by
      match z, hz7 with
      | [z0, z1, z2, z3, z4, z5, z6], _ => exact ⟨z0, z1, z2, z3, z4, z5, z6, rfl⟩
     refine ⟨r, hr1, Comes.step aa az.D1 [r5, r6, r7] ?_ hr2⟩
     simp only [HM, FT, IB, ag, E.b, E.i, E.v, Env.ext, List.cons_append, List.nil_append, List.getD_cons_zero, List.getD_cons_succ, List.append_nil, aD, ao, aI, Bool.and_eq_true, Bool.not_eq_true', aC, aE, and_true]
     exact ⟨by omega, by omega, by omega, r52, r62, r72, by omega⟩
    have S3' : ∀ z : List Int, z.length = 7 -> ∃ r, (∃ x y, r = V.list [x, y] /\ a8 x (dg (m / n)) /\ a8 y (dg (m % n))) /\ Comes az.K az.f az.s3 ⟨[((R / pw (N - 1) / (n / pw (N - 1) + 1) : Nat) : Int), ((R / pw (N - 1) / (n / pw (N - 1)) : Nat) : Int)] ++ z ++ [(i : Int)], [], [a, b, q, q, r4]⟩ r := fun z hz7 => tL hn hb r41 hR (by omega) z hz7 i (S3 z hz7) _ _ _ _ _ (Nat.sub_add_cancel (Nat.le_trans hlo hhi)) rfl rfl hlo hhi hcap
    have hTb : n / pw (N - 1) < 100000000 := by
     rw [Nat.div_lt_iff_lt_mul hE]
     rcases Nat.eq_zero_or_pos N with z | z
     ·subst z; rw [<- hN, b8, dk] at hnl; rw [dk]; omega
     ·have : pw (N + 1) = 10000 * (10000 * pw (N - 1)) := by rw [b8, <- b8 (N - 1), show N - 1 + 1 = N from by omega]
      rw [<- hN] at hnl; omega
    have hFb : R / pw (N - 1) < 1000000000000 := by
     rw [Nat.div_lt_iff_lt_mul hE]
     have : n < 100000000 * pw (N - 1) := by rwa [Nat.div_lt_iff_lt_mul hE] at hTb
     omega
    have tq : ∀ x y : Nat, ((x : Int)).tdiv (y : Int) = ((x / y : Nat) : Int) := by
     intro x y; rw [Int.tdiv_eq_ediv_of_nonneg (by omega)]; rfl
    have mx : vA 0 ((b.len : Int) - 1 - 1) = ((N - 1 : Nat) : Int) := by unfold vA; split <;> omega
    have S2 : ∃ r, (∃ x y, r = V.list [x, y] /\ a8 x (dg (m / n)) /\ a8 y (dg (m % n))) /\ Comes az.K az.f az.s2 ⟨[((n / pw (N - 1) : Nat) : Int), ((R / pw (N - 1) : Nat) : Int), ((N - 1 : Nat) : Int) - 1, (i : Int)], [], [a, b, q, q, r4]⟩ r := by
     generalize hTT : n / pw (N - 1) = T at *
     generalize hFF : R / pw (N - 1) = F at *
     have e1 := tq F (T + 1)
     have e2 := tq F T
     rw [Int.natCast_add] at e1
     have b1 : F / (T + 1) <= F := Nat.div_le_self _ _
     have b2 : F / T <= F := Nat.div_le_self _ _
     obtain ⟨r, h1, h2⟩ := S3' [(F : Int), (T : Int), (T : Int) + 1, (F : Int).tdiv ((T : Int) + 1), (F : Int), (T : Int), (F : Int).tdiv (T : Int)] rfl
     rw [<- e1, <- e2] at h2
     refine ⟨r, h1, Comes.step aa az.p8 [] ?_ h2⟩
     simp only [HM, FT, IB, ag, E.b, E.i, E.v, Env.ext, List.getD_cons_zero, List.getD_cons_succ, List.append_nil, aD, ao, aI, Bool.and_eq_true, Bool.not_eq_true', aC, aE, and_true, mx, e2]
     simp only [Int.natCast_one] at e1
     rw [e1]
     generalize F / (T + 1) = X at *
     generalize F / T = Y at *
     omega
    obtain ⟨r', h1, h2⟩ := vQ hN hb r41 hR (by omega) (i : Int) S2 (N + 2 - (N - 1)) (N + 2) 0 0 ((b.len - 1) + 1) (by omega) (Nat.le_refl _) (by
      rw [Nat.div_eq_of_lt (by rw [b8]; rw [<- hN] at hnl; omega)]; rfl) (by
      rw [Nat.div_eq_of_lt (by rw [b8]; rw [<- hN] at hnl; omega)]; rfl) (by omega)
    refine ⟨r', h1, Comes.step aa az.p2 [r4] ?_ h2⟩
    simp [HM, FT, IB, ag, E.b, E.i, E.v, Env.ext, Sub.ev, aD, ao, aK, aI, aC, aE]
    exact ⟨by omega, by omega, r42, by omega⟩
  have hlen : (a.len - (b.len - 1)) = (((dg m).length - N : Nat) : Int) := by omega
  have I0 : a8 (V.rep (a.len - (b.len - 1)) (.int 0)) (List.replicate ((dg m).length - N) 0) := by rw [hlen]; exact a8.rep _ 0
  have I1 : a8 ((V.list []).app (a.sub (a.len - (b.len - 1)) a.len)) (dg (m / pw ((dg m).length - N) % n)) := by
   have h1 := ha.sub (i := (dg m).length - N) (j := (dg m).length) (by omega) (Nat.le_refl _)
   rw [List.take_length, CU] at h1
   have h2 : m / pw ((dg m).length - N) < n := by
    refine Nat.lt_of_lt_of_le ?_ hNp
    rw [Nat.div_lt_iff_lt_mul (nA _), <- vp, show N + ((dg m).length - N) = (dg m).length from by omega]; exact hml
   rw [Nat.mod_eq_of_lt h2, hlen, la]
   have := lH.app h1
   simpa using this
  obtain ⟨r, ⟨x, y, rfl, h1, h2⟩, h3⟩ := outer ((dg m).length - N) ((V.rep (a.len - (b.len - 1)) (.int 0)).len - 1) .nil _ _ _ (Nat.le_refl _) (by rw [I0.len]; simp) I1 I0 (by intro x hx; have := List.eq_of_mem_replicate hx; omega) (by simp) (fun t ht => CF ht) (by
   have h2 : m / pw ((dg m).length - N) < n := by
    refine Nat.lt_of_lt_of_le ?_ hNp
    rw [Nat.div_lt_iff_lt_mul (nA _), <- vp, show N + ((dg m).length - N) = (dg m).length from by omega]; exact hml
   rw [zC, Nat.div_eq_of_lt h2, Nat.mul_zero])
  refine ⟨x, y, h1, h2, Fn.of (C := az.K) az.b ?_⟩
  refine Comes.step aa az.p1 [] ?_ h3
  have c1 := I0.len
  have h4 := (ha.sub (i := (dg m).length - N) (j := (dg m).length) (by omega) (Nat.le_refl _)).len
  rw [<- hlen, <- la] at h4
  simp only [List.length_replicate] at c1
  simp only [List.length_drop, List.length_take] at h4
  simp only [HM, FT, IB, ag, E.b, E.i, E.v, Env.ext, List.getD_cons_zero, List.getD_cons_succ, List.append_nil, aD, ao, Bool.and_eq_true, Bool.not_eq_true', aC, aE, and_true, c1, h4]
  omega
end X
namespace X
open Go Go.a9 Go.Sym
theorem yT (a0 b0 : V) : ∀ (n m : Nat) (a b : V), a8 a (dg m) -> a8 b (dg n) -> (dg m).length <= 50000000 -> (dg n).length <= 50000000 -> ∃ r, a8 r (dg (Nat.gcd m n)) /\ Comes dI.K dI.f dI.s1 ⟨[], [], [a0, b0, a, b]⟩ r := by
 intro n
 induction n using Nat.strongRecOn with
 | _ n ih =>
  intro m a b ha hb lm ln
  have lb := hb.len
  by_cases h0 : n = 0
  ·subst h0
   refine ⟨a, by simpa using ha, Comes.last aa dI.p2 [] ?_ ?_⟩
   ·have : b.len = 0 := by simpa [jt] using lb
    simp [HM, FT, IB, ag, E.b, E.i, E.v, Env.ext, Sub.ev, aD, ao, aK, aI, aC, aE]; omega
   ·simp [HM, FT, IB, ag, E.b, E.i, E.v, Env.ext, Sub.ev, aD, ao, aK, aI, aC, aE]
  ·obtain ⟨x, y, h1, h2, h3⟩ := lP ha hb (by omega) lm ln
   have hlt : m % n < n := Nat.mod_lt _ (by omega)
   have hl : (dg (m % n)).length <= (dg n).length := h7 (by have := eE (gX n); rw [eF] at this; omega)
   obtain ⟨r, r1, r2⟩ := ih (m % n) hlt n b y hb h2 ln (by omega)
   rw [Nat.gcd_comm n, <- Nat.gcd_rec, Nat.gcd_comm n] at r1
   refine ⟨r, r1, Comes.step aa dI.p1 [.list [x, y]] ?_ r2⟩
   simp [HM, FT, IB, ag, E.b, E.i, E.v, Env.ext, Sub.ev, aD, ao, aK, aI, aC, aE]
   refine ⟨?_, h3⟩
   rw [lb]
   have : 0 < (dg n).length := (ie n 0).2 (by rw [dk]; simp; omega)
   omega
theorem yS {a b : V} {m n : Nat} (ha : a8 a (dg m)) (hb : a8 b (dg n)) (lm : (dg m).length <= 50000000) (ln : (dg n).length <= 50000000) : ∃ r, a8 r (dg (Nat.gcd m n)) /\ Fn prog dI.f [a, b] r := by
 obtain ⟨r, r1, r2⟩ := yT a b n m a b ha hb lm ln
 exact ⟨r, r1, Fn.of (C := dI.K) dI.b (Comes.step aa dI.p0 [] trivial r2)⟩
def nO : Nat := 4611686018427387903
theorem yf {a x y : V} {m : Nat} (ha : a8 a (dg m)) (hm : m <= nO) : ∀ (j : Nat) (s i : Int), j <= (dg m).length -> i = (j : Int) - 1 -> s = ((m / pw j : Nat) : Int) -> Comes bT.K bT.f bT.s1 ⟨[s, i], [], [a, x, y]⟩ (.list [.int m, .bool true]) := by
 have la := ha.len
 intro j
 induction j with
 | zero =>
  intro s i hj hi hs
  subst hi hs
  refine Comes.last aa bT.p3 [] ?_ ?_
  ·simp [HM, FT, IB, ag, E.b, E.i, E.v, Env.ext, Sub.ev, aD, ao, aK, aI, aC, aE]
  ·simp [HM, FT, IB, ag, E.b, E.i, E.v, Env.ext, Sub.ev, aD, ao, aK, aI, aC, aE]; simp [V.snoc, V.bx, dk]
 | succ j ih =>
  intro s i hj hi hs
  have hi' : i = (j : Int) := by omega
  subst hi' hs
  have g1 := lU m j
  rw [if_neg ((ie m j).1 (by omega))] at g1
  have ga := ha.get g1
  have dm := sZ m j
  have am := Nat.div_add_mod (m / pw j) 10000
  rw [<- dm] at am
  have hd : m / pw j % 10000 < 10000 := Nat.mod_lt _ (by omega)
  have hle : m / pw j <= nO := Nat.le_trans (Nat.div_le_self _ _) hm
  generalize m / pw (j + 1) = X at *
  generalize hY : m / pw j % 10000 = Y at *
  have hb5 : (dg m).length <= 5 := h7 (by unfold pw; unfold nO at hm; omega)
  unfold nO at hle
  refine Comes.step aa bT.p2 [] ?_ (ih (10000 * (X : Int) + (a.get (j : Int)).ab) ((j : Int) - 1) (by omega) rfl (by rw [ga, <- am, Int.natCast_add, Int.natCast_mul]; rfl))
  simp only [HM, FT, IB, ag, E.b, E.i, E.v, Env.ext, List.getD_cons_zero, List.getD_cons_succ, List.append_nil, aD, ao, Bool.and_eq_true, Bool.not_eq_true', aC, aE, and_true, ga]
  omega
theorem rL {a : V} {m : Nat} (ha : a8 a (dg m)) (lm : (dg m).length <= 50000000) : Fn prog bT.f [a] (if m <= nO then .list [.int m, .bool true] else .list [.int 0, .bool false]) := by
 have la := ha.len
 obtain ⟨r1, r11, r12⟩ := lT 4611686018427387903 (by omega) (by omega)
 have hc := oG ha r11 (by omega)
 have hbig : ((4611686018427387903 : Int).natAbs) = nO := rfl
 rw [hbig] at hc
 clear hbig
 clear r11
 by_cases h : m <= nO
 ·rw [if_pos h]
  refine Fn.of (C := bT.K) bT.b (Comes.step aa bT.p1 [r1, .int (jc m nO)] ?_ (yf ha h (dg m).length 0 (a.len - 1) (Nat.le_refl _) (by rw [la]) ?_))
  ·simp only [HM, FT, IB, ag, E.b, E.i, E.v, Env.ext, List.map_cons, List.map_nil, List.cons_append, List.nil_append, List.getD_cons_zero, List.getD_cons_succ, List.append_nil, aD, ao, Bool.and_eq_true, Bool.not_eq_true', aC, aE, and_true]
   refine ⟨r12, hc, ?_, by omega⟩
   show jc m nO <= 0
   clear hc r12; unfold jc; split <;> (try split) <;> omega
  ·rw [Nat.div_eq_of_lt]; · rfl
   have := eE (gX m); rwa [eF] at this
 ·rw [if_neg h]
  refine Fn.of (C := bT.K) bT.b (Comes.last aa bT.p0 [r1, .int (jc m nO)] ?_ ?_)
  ·simp only [HM, FT, IB, ag, E.b, E.i, E.v, Env.ext, List.map_cons, List.map_nil, List.cons_append, List.nil_append, List.getD_cons_zero, List.getD_cons_succ, List.append_nil, aD, ao, Bool.and_eq_true, Bool.not_eq_true', aC, aE, and_true]
   refine ⟨r12, hc, ?_⟩
   show 0 < jc m nO
   clear hc r12; unfold jc; split <;> (try split) <;> omega
  ·simp [HM, FT, IB, ag, E.b, E.i, E.v, Env.ext, Sub.ev, aD, ao, aK, aI, aC, aE]; simp [V.snoc, V.bx]
def qV (neg : Bool) (n d : Nat) : V := .list [.int (if neg then -(n : Int) else n), .int d]
def uC (neg : Bool) (n d : Nat) : V :=
 if n / n.gcd d <= nO /\ d / n.gcd d <= nO then .list [qV neg (n / n.gcd d) (d / n.gcd d), .bool true] else .list [.list [.int 0, .int 0], .bool false]
theorem AD {a b : V} {m n : Nat} {neg : Bool} (ha : a8 a (dg m)) (hb : a8 b (dg n)) (hn : 0 < n) (lm : (dg m).length <= 50000000) (ln : (dg n).length <= 50000000) : Fn prog b7.f [.bool neg, a, b] (uC neg m n) := by
 obtain ⟨r3, r31, r32⟩ := yS ha hb lm ln
 have hg : 0 < m.gcd n := Nat.gcd_pos_of_pos_right _ hn
 have lg : (dg (m.gcd n)).length <= (dg n).length := h7 (by
  have := eE (gX n); rw [eF] at this
  exact Nat.lt_of_le_of_lt (Nat.gcd_le_right _ hn) this)
 obtain ⟨x4, y4, x41, y41, r4⟩ := lP ha r31 hg lm (by omega)
 obtain ⟨x5, y5, x51, y51, r5⟩ := lP hb r31 hg ln (by omega)
 have l4 : (dg (m / m.gcd n)).length <= (dg m).length := h7 (by
  have := eE (gX m); rw [eF] at this
  exact Nat.lt_of_le_of_lt (Nat.div_le_self _ _) this)
 have l5 : (dg (n / m.gcd n)).length <= (dg n).length := h7 (by
  have := eE (gX n); rw [eF] at this
  exact Nat.lt_of_le_of_lt (Nat.div_le_self _ _) this)
 have r6 := rL x41 (by omega)
 have r7 := rL x51 (by omega)
 unfold uC
 by_cases h1 : m / m.gcd n <= nO
 ·rw [if_pos h1] at r6
  by_cases h2 : n / m.gcd n <= nO
  ·rw [if_pos h2] at r7
   rw [if_pos ⟨h1, h2⟩]
   generalize m / m.gcd n = M at *
   generalize n / m.gcd n = N at *
   cases neg with
   | true =>
    refine Fn.of (C := b7.K) b7.b (Comes.last aa b7.p2 [r3, .list [x4, y4], .list [x5, y5], .list [.int M, .bool true], .list [.int N, .bool true]] ?_ ?_)
    ·unfold nO at h1 h2
     simp [HM, FT, IB, ag, E.b, E.i, E.v, Env.ext, Sub.ev, aD, ao, aK, aI, aC, aE]
     exact ⟨r32, r4, r5, r6, r7, rfl, rfl, rfl, by simp [V.get, V.bx, V.ab]; omega, by simp [V.get, V.bx, V.ab]⟩
    ·simp [HM, FT, IB, ag, E.b, E.i, E.v, Env.ext, Sub.ev, aD, ao, aK, aI, aC, aE]; simp [V.snoc, V.bx, V.get, V.ab, qV]
   | false =>
    refine Fn.of (C := b7.K) b7.b (Comes.last aa b7.p3 [r3, .list [x4, y4], .list [x5, y5], .list [.int M, .bool true], .list [.int N, .bool true]] ?_ ?_)
    ·simp [HM, FT, IB, ag, E.b, E.i, E.v, Env.ext, Sub.ev, aD, ao, aK, aI, aC, aE]
     exact ⟨r32, r4, r5, r6, r7, rfl, rfl, rfl⟩
    ·simp [HM, FT, IB, ag, E.b, E.i, E.v, Env.ext, Sub.ev, aD, ao, aK, aI, aC, aE]; simp [V.snoc, V.bx, V.get, V.ab, qV]
  ·rw [if_neg h2] at r7
   rw [if_neg (fun h => h2 h.2)]
   refine Fn.of (C := b7.K) b7.b (Comes.last aa b7.p1 [r3, .list [x4, y4], .list [x5, y5], .list [.int (m / m.gcd n : Nat), .bool true], .list [.int 0, .bool false]] ?_ ?_)
   ·generalize m / m.gcd n = M at *
    generalize n / m.gcd n = N at *
    simp [HM, FT, IB, ag, E.b, E.i, E.v, Env.ext, Sub.ev, aD, ao, aK, aI, aC, aE]
    exact ⟨r32, r4, r5, r6, r7, rfl, rfl⟩
   ·simp [HM, FT, IB, ag, E.b, E.i, E.v, Env.ext, Sub.ev, aD, ao, aK, aI, aC, aE]; simp [V.snoc, V.bx]
 ·rw [if_neg h1] at r6
  rw [if_neg (fun h => h1 h.1)]
  generalize (if n / m.gcd n <= nO then V.list [.int (n / m.gcd n : Nat), .bool true] else V.list [.int 0, .bool false]) = v7 at r7
  refine Fn.of (C := b7.K) b7.b (Comes.last aa b7.p0 [r3, .list [x4, y4], .list [x5, y5], .list [.int 0, .bool false], v7] ?_ ?_)
  ·simp [HM, FT, IB, ag, E.b, E.i, E.v, Env.ext, Sub.ev, aD, ao, aK, aI, aC, aE]
   exact ⟨r32, r4, r5, r6, r7, rfl⟩
  ·simp [HM, FT, IB, ag, E.b, E.i, E.v, Env.ext, Sub.ev, aD, ao, aK, aI, aC, aE]; simp [V.snoc, V.bx]
def Az (n d : Int) : Bool := !((decide (n < 0)) == (decide (d < 0)))
def zU (n d : Int) : V := uC (Az n d) n.natAbs d.natAbs
theorem x7 {n d : Int} (hd : d ≠ 0) (h1 : -9223372036854775808 <= n) (h2 : n <= 9223372036854775807) (h3 : -9223372036854775808 <= d) (h4 : d <= 9223372036854775807) : Fn prog iO.f [.int n, .int d] (zU n d) := by
 obtain ⟨a, a1, a2⟩ := lT n h1 h2
 obtain ⟨b, b1, b2⟩ := lT d h3 h4
 have l1 : (dg n.natAbs).length <= 5 := h7 (by unfold pw; omega)
 have l2 : (dg d.natAbs).length <= 5 := h7 (by unfold pw; omega)
 have r := AD (neg := Az n d) a1 b1 (by omega) (by omega) (by omega)
 refine Fn.of (C := iO.K) iO.b (Comes.last aa iO.p0 [a, b, uC (Az n d) n.natAbs d.natAbs] ?_ ?_)
 ·simp [HM, FT, IB, ag, E.b, E.i, E.v, Env.ext, Sub.ev, aD, ao, aK, aI, aC, aE]
  exact ⟨a2, b2, r⟩
 ·simp [HM, FT, IB, ag, E.b, E.i, E.v, Env.ext, Sub.ev, aD, ao, aK, aI, aC, aE]
  unfold zU uC
  split <;> simp [V.snoc, V.bx, V.get, V.ab, V.eI, qV]
def EC (n d : Int) : V :=
 if n.natAbs / n.natAbs.gcd d.natAbs <= nO /\ d.natAbs / n.natAbs.gcd d.natAbs <= nO then qV (Az n d) (n.natAbs / n.natAbs.gcd d.natAbs) (d.natAbs / n.natAbs.gcd d.natAbs) else .list [.int 0, .int 0]
theorem C2 {n d : Int} (hd : d ≠ 0) (h1 : -9223372036854775808 <= n) (h2 : n <= 9223372036854775807) (h3 : -9223372036854775808 <= d) (h4 : d <= 9223372036854775807) : Fn prog iN.f [.int n, .int d] (EC n d) := by
 have r := x7 hd h1 h2 h3 h4
 refine Fn.of (C := iN.K) iN.b (Comes.last aa iN.p0 [zU n d] ?_ ?_)
 ·simp [HM, FT, IB, ag, E.b, E.i, E.v, Env.ext, Sub.ev, aD, ao, aK, aI, aC, aE]
  exact r
 ·simp [HM, FT, IB, ag, E.b, E.i, E.v, Env.ext, Sub.ev, aD, ao, aK, aI, aC, aE]
  unfold zU uC EC
  split <;> simp [V.snoc, V.bx, V.get, V.ab, V.eI, qV]
end X
namespace X
open Go Go.a9 Go.Sym
theorem aO : (∀ {α β : Type} {f : α -> β} {a : α} {l : List α}, List.map f (a :: l) = f a :: List.map f l) /\ (∀ {α β : Type} {f : α -> β}, List.map f [] = []) /\ (∀ {α : Type} {a : α} {k l : List α}, (a :: k) ++ l = a :: (k ++ l)) /\ (∀ {α : Type} (l : List α), [] ++ l = l) /\ (∀ {α : Type} (l : List α), l ++ [] = l) /\ (∀ {α : Type} {x d : α} {xs : List α}, (x :: xs).getD 0 d = x) /\ (∀ {α : Type} {x d : α} {xs : List α} {n : Nat}, (x :: xs).getD (n + 1) d = xs.getD n d) /\ (∀ z : Int, (V.int z).ab = z) /\ (∀ b : Bool, (V.bool b).eI = b) /\ (∀ {a b : Int}, Cu a b = true ↔ a < b) /\ (∀ {a b : Int}, Cv a b = true ↔ a <= b) /\ (∀ {a b : Int}, AS a b = true ↔ a = b) /\ (∀ {a b : Int}, AS a b = false ↔ ¬ a = b) /\ (∀ {a b : Int}, Cu a b = false ↔ b <= a) /\ (∀ {a b : Int}, Cv a b = false ↔ b < a) /\ (∀ b : Bool, ((!b) = true) = (b = false)) /\ (∀ b : Bool, ((!b) = false) = (b = true)) /\ (∀ b : Bool, (!!b) = b) /\ (∀ a b : Bool, ((a && b) = true) = (a = true /\ b = true)) /\ (∀ p : Prop, (p /\ True) = p) /\ (∀ p : Prop, (True /\ p) = p) :=
 ⟨by simp, by simp, by simp, by simp, by simp, by simp, by simp, by simp [V.ab], by simp [V.eI], aD, ao, aK, aI, aC, aE, by simp, by simp, by simp, by simp, by simp, by simp⟩
def qn (n d : Nat) : V := .list [.int n, .int d]
def can (a b : Nat) : V := qn (a / a.gcd b) (b / a.gcd b)
theorem Dz {a b : Nat} (ha : a <= nO) (hb : b <= nO) (b0 : 0 < b) : Fn prog iN.f [.int a, .int b] (can a b) := by
 unfold nO at ha hb
 have := C2 (n := a) (d := b) (by omega) (by omega) (by omega) (by omega) (by omega)
 unfold EC at this
 simp only [Int.natAbs_natCast] at this
 rw [if_pos ⟨by have := Nat.div_le_self a (a.gcd b); unfold nO; omega, by have := Nat.div_le_self b (a.gcd b); unfold nO; omega⟩] at this
 have hn : Az a b = false := by
  have h1 : decide ((a : Int) < 0) = false := by simp
  have h2 : decide ((b : Int) < 0) = false := by simp
  unfold Az; rw [h1, h2]; rfl
 rw [hn] at this
 exact this
theorem ue (n : Nat) (h : n <= 9223372036854775807) : Fn prog j4.f [.int n] (.int n) := by
 refine Fn.of (C := j4.K) j4.b (Comes.last aa j4.p1 [] ?_ ?_)
 ·simp [HM, FT, IB, ag, E.b, E.i, E.v, Env.ext, Sub.ev, aD, ao, aK, aI, aC, aE, V.get, V.bx, V.ab, V.eI, V.snoc, V.len]
 ·simp [HM, FT, IB, ag, E.b, E.i, E.v, Env.ext, Sub.ev, aD, ao, aK, aI, aC, aE, V.get, V.bx, V.ab, V.eI, V.snoc, V.len]
  simp [IntKind.wrap, IntKind.signed, IntKind.bits]
  omega
theorem A6 {n d : Nat} (hd : 0 < d) (h1 : n <= nO) (h2 : d <= nO) : Fn prog eA.f [.int n, .int d] (.list [qV false (n / n.gcd d) (d / n.gcd d), .int 0]) := by
 have hg : 0 < n.gcd d := Nat.gcd_pos_of_pos_right _ hd
 have q1 : n / n.gcd d <= n := Nat.div_le_self _ _
 have q2 : d / n.gcd d <= d := Nat.div_le_self _ _
 unfold nO at h1 h2
 have s1 := ue n (by omega)
 have s2 := ue d (by omega)
 have s3 := BN n d
 have t1 : ((n : Int)).tdiv ((n.gcd d : Nat) : Int) = ((n / n.gcd d : Nat) : Int) := by rw [Int.tdiv_eq_ediv_of_nonneg (by omega)]; rfl
 have t2 : ((d : Int)).tdiv ((n.gcd d : Nat) : Int) = ((d / n.gcd d : Nat) : Int) := by rw [Int.tdiv_eq_ediv_of_nonneg (by omega)]; rfl
 have hg' : ¬ ((n.gcd d : Nat) : Int) = 0 := by omega
 generalize n.gcd d = g at *
 generalize n / g = a at *
 generalize d / g = b at *
 by_cases h0 : n = 0
 ·subst h0
  refine Fn.of (C := eA.K) eA.b (Comes.last aa eA.p7 [.int (0 : Nat), .int d, .int g, .int (0 : Nat), .int d] ?_ ?_)
  ·simp only [HM, FT, IB, ag, E.b, E.i, E.v, Env.ext, List.map_cons, List.map_nil, List.cons_append, List.nil_append, List.getD_cons_zero, List.getD_cons_succ, V.ab, aD, ao, aK, aI, Bool.and_eq_true, Bool.not_eq_true', Bool.not_eq_false', aC, aE, and_true, t1, t2]
   refine ⟨by omega, s1, s2, s3, by omega, s1, hg', by omega, s2, hg', ?_⟩
   omega
  ·simp only [E.b, E.i, E.v, Env.ext, List.cons_append, List.nil_append, List.getD_cons_zero, List.getD_cons_succ, V.ab, t1, t2, V.snoc, V.bx, qV]
   rfl
 ·refine Fn.of (C := eA.K) eA.b (Comes.last aa eA.p4 [.int n, .int d, .int g, .int n, .int d] ?_ ?_)
  ·simp only [HM, FT, IB, ag, E.b, E.i, E.v, Env.ext, List.map_cons, List.map_nil, List.cons_append, List.nil_append, List.getD_cons_zero, List.getD_cons_succ, V.ab, aD, ao, aK, aI, Bool.and_eq_true, Bool.not_eq_true', Bool.not_eq_false', aC, aE, and_true, t1, t2]
   refine ⟨by omega, s1, s2, s3, by omega, s1, hg', by omega, s2, hg', by omega, by omega, by omega, ?_, by omega, by omega⟩
   have e1 : Cu (n : Int) 0 = false := by rw [aC]; omega
   have e2 : Cu (d : Int) 0 = false := by rw [aC]; omega
   simp [e1, e2]
  ·simp only [E.b, E.i, E.v, Env.ext, List.cons_append, List.nil_append, List.getD_cons_zero, List.getD_cons_succ, V.ab, t1, t2, V.snoc, V.bx, qV]
   rfl
end X
namespace X
open Go Go.a9 Go.Sym
def Zs (x : V) (l : List Int) : Prop := x.bx = l.map V.int
theorem Zs.len {a : V} {l : List Int} (h : Zs a l) : a.len = l.length := by unfold Zs at h; simp [V.len, h]
theorem Zs.get {a : V} {l : List Int} (h : Zs a l) {i : Nat} {d : Int} (hd : l[i]? = some d) : (a.get (i : Int)).ab = d := by
 unfold Zs at h; simp [V.get, h, hd, V.ab]
theorem a8.zs {a : V} {l : List Nat} (h : a8 a l) : Zs a (l.map Int.ofNat) := by
 unfold a8 at h; unfold Zs; rw [h, List.map_map]; rfl
structure cT (R : V) (rows : List (List Int)) : Prop where
 len : R.bx.length = rows.length
 row : ∀ (j : Nat) (r : List Int), rows[j]? = some r -> Zs (R.get (j : Int)) r
theorem cT.cX {R : V} {rows : List (List Int)} (h : cT R rows) : R.len = rows.length := by simp [V.len, h.len]
structure EX (G C o : Int) (R : V) (rows : List (List Int)) : Prop where
 Ah : cT R rows
 rl : rows.length <= 12
 rw : ∀ r ∈ rows, r.length <= 6
 c1 : -9223372036854775808 <= C
 c2 : C <= 9223372036854775807
theorem cf (l : List V) : (V.list l).bx = l := rfl
theorem xT (x : V) : (V.app .nil x).bx = x.bx := by
 unfold V.app
 split
 ·rename_i h; rw [h]; rfl
 ·rfl
theorem zF (x : V) (i j : Int) : (x.sub i j).bx = (x.bx.take j.toNat).drop i.toNat := by
 unfold V.sub
 split
 ·simp [V.bx]
 ·rfl
theorem vN {x : V} {i : Nat} (h : i < x.bx.length) : x.get (i : Int) = x.bx[i] := by simp [V.get, h]
theorem Zs.copy {x : V} {l : List Int} (h : Zs x l) : Zs (V.app .nil x) l := by unfold Zs at *; rw [xT, h]
theorem Zs.sub {x : V} {l : List Int} (h : Zs x l) (j : Int) : Zs (x.sub 0 j) (l.take j.toNat) := by
 unfold Zs at *; rw [zF, h]; simp [List.map_take]
theorem Zs.set {x : V} {l : List Int} (h : Zs x l) (i : Nat) (w : Int) : Zs (x.set (i : Int) (.int w)) (l.set i w) := by
 unfold Zs at *; simp [V.set, cf, h, List.map_set]
theorem Zs.snoc {x : V} {l : List Int} (h : Zs x l) (w : Int) : Zs (x.snoc (.int w)) (l ++ [w]) := by
 unfold Zs at *; simp [V.snoc, cf, h]
def fM : List V -> List (List Int) -> Prop
 | [], [] => True
 | x :: xs, r :: rs => Zs x r /\ fM xs rs
 | _, _ => False
theorem fM.get : ∀ {xs : List V} {rs : List (List Int)}, fM xs rs -> xs.length = rs.length /\ ∀ (j : Nat) (r : List Int), rs[j]? = some r -> ∃ x, xs[j]? = some x /\ Zs x r
 | [], [], _ => ⟨rfl, fun j r h => by simp at h⟩
 | x :: xs, r :: rs, ⟨h1, h2⟩ => by
  obtain ⟨k1, k2⟩ := fM.get h2
  refine ⟨by simp [k1], fun j r' h => ?_⟩
  cases j with
  | zero => simp at h; subst h; exact ⟨x, rfl, h1⟩
  | succ j => simpa using k2 j r' (by simpa using h)
 | [], _ :: _, h => h.elim
 | _ :: _, [], h => h.elim
theorem fM.of : ∀ {xs : List V} {rs : List (List Int)}, xs.length = rs.length -> (∀ (j : Nat) (r : List Int), rs[j]? = some r -> ∃ x, xs[j]? = some x /\ Zs x r) -> fM xs rs
 | [], [], _, _ => trivial
 | x :: xs, r :: rs, hl, h => by
  refine ⟨?_, fM.of (by simpa using hl) fun j r' hj => by simpa using h (j + 1) r' (by simpa using hj)⟩
  obtain ⟨y, e, k⟩ := h 0 r rfl
  simp at e; subst e; exact k
 | [], _ :: _, hl, _ => by simp at hl
 | _ :: _, [], hl, _ => by simp at hl
theorem ij {R : V} {rows : List (List Int)} : cT R rows ↔ fM R.bx rows := by
 constructor
 ·intro h
  refine fM.of h.len fun j r hj => ?_
  have hlt : j < R.bx.length := by rw [h.len]; exact (List.getElem?_eq_some_iff.1 hj).1
  exact ⟨R.bx[j], List.getElem?_eq_getElem hlt, by rw [<- vN hlt]; exact h.row j r hj⟩
 ·intro h
  obtain ⟨h1, h2⟩ := h.get
  refine ⟨h1, fun j r hj => ?_⟩
  obtain ⟨x, e, k⟩ := h2 j r hj
  have hlt := (List.getElem?_eq_some_iff.1 e).1
  rw [vN hlt]
  have : R.bx[j] = x := by rw [List.getElem?_eq_getElem hlt] at e; simpa using e
  rw [this]; exact k
theorem fM.snoc : ∀ {xs : List V} {rs : List (List Int)} {x : V} {r : List Int}, fM xs rs -> Zs x r -> fM (xs ++ [x]) (rs ++ [r])
 | [], [], _, _, _, h => ⟨h, trivial⟩
 | _ :: _, _ :: _, _, _, ⟨h1, h2⟩, h => ⟨h1, fM.snoc h2 h⟩
 | [], _ :: _, _, _, h, _ => h.elim
 | _ :: _, [], _, _, h, _ => h.elim
theorem fM.set : ∀ {xs : List V} {rs : List (List Int)} {x : V} {r : List Int} (j : Nat), fM xs rs -> Zs x r -> fM (xs.set j x) (rs.set j r)
 | [], [], _, _, j, _, h => trivial
 | _ :: _, _ :: _, _, _, 0, ⟨h1, h2⟩, h => ⟨h, h2⟩
 | _ :: _, _ :: _, _, _, j + 1, ⟨h1, h2⟩, h => ⟨h1, fM.set j h2 h⟩
 | [], _ :: _, _, _, _, h, _ => h.elim
 | _ :: _, [], _, _, _, h, _ => h.elim
theorem fM.drop : ∀ {xs : List V} {rs : List (List Int)} (j : Nat), fM xs rs -> fM (xs.drop j) (rs.drop j)
 | _, _, 0, h => h
 | [], [], _ + 1, _ => trivial
 | _ :: _, _ :: _, j + 1, ⟨_, h2⟩ => fM.drop j h2
 | [], _ :: _, _ + 1, h => h.elim
 | _ :: _, [], _ + 1, h => h.elim
theorem fM.take : ∀ {xs : List V} {rs : List (List Int)} (j : Nat), fM xs rs -> fM (xs.take j) (rs.take j)
 | _, _, 0, h => by simp [fM]
 | [], [], _ + 1, _ => trivial
 | _ :: _, _ :: _, j + 1, ⟨h1, h2⟩ => ⟨h1, fM.take j h2⟩
 | [], _ :: _, _ + 1, h => h.elim
 | _ :: _, [], _ + 1, h => h.elim
theorem cT.snoc {R x : V} {rows : List (List Int)} {r : List Int} (h : cT R rows) (k : Zs x r) : cT (R.snoc x) (rows ++ [r]) := ij.2 ((ij.1 h).snoc k)
theorem cT.set {R x : V} {rows : List (List Int)} {r : List Int} (h : cT R rows) (j : Nat) (k : Zs x r) : cT (R.set (j : Int) x) (rows.set j r) := by
 refine ij.2 ?_
 have := (ij.1 h).set j k
 simpa [V.set, cf] using this
theorem cT.sub {R : V} {rows : List (List Int)} (h : cT R rows) (i j : Int) : cT (R.sub i j) ((rows.take j.toNat).drop i.toNat) := by
 refine ij.2 ?_
 rw [zF]
 exact ((ij.1 h).take _).drop _
theorem jh : cT .nil [] := ij.2 trivial
theorem dq (a b : Nat) : ((a : Int)).tmod (b : Int) = ((a % b : Nat) : Int) := by rw [Int.tmod_eq_emod_of_nonneg (Int.natCast_nonneg _)]; rfl
end X
namespace X
open Go Go.a9 Go.Sym
def ny (G : Int) : Int -> List Int -> Option Int
 | s, [] => some s
 | s, w :: r => if w < 0 \/ G < w then none else ny G (s + w) r
def er (G n : Int) (l : List Int) : Bool :=
 match ny G 0 l with
 | some s => if (l.length : Int) = n then decide (s = G) else false
 | none => false
theorem uq {G s : Int} {l : List Int} {i : Nat} {w : Int} (h : l[i]? = some w) : ny G s (l.drop i) = if w < 0 \/ G < w then none else ny G (s + w) (l.drop (i + 1)) := by
 have hlt := (List.getElem?_eq_some_iff.1 h).1
 rw [List.drop_eq_getElem_cons hlt]
 rw [List.getElem?_eq_getElem hlt] at h
 cases h
 rfl
theorem uK {x : V} {l : List Int} (hx : Zs x l) (hl : l.length <= 1000) {G : Int} (n : Int) (g1 : 0 <= G) (g2 : G <= 12) : Fn prog hU.f [x, .int n, .int G] (.bool (er G n l)) := by
 have xl := hx.len
 have loop : ∀ (t i : Nat) (s i' : Int), t + i = l.length -> i' = i -> 0 <= s -> s <= 12 * i -> ny G 0 l = ny G s (l.drop i) -> Comes hU.K hU.f hU.s1 ⟨[s, i'], [], [x, .int n, .int G]⟩ (.bool (er G n l)) := by
  intro t
  induction t with
  | zero =>
   intro i s i' ht hi h0 h1 hs
   subst hi
   have : i = l.length := by omega
   subst this
   rw [List.drop_length] at hs
   have hs : ny G 0 l = some s := hs
   by_cases hn : (l.length : Int) = n
   ·refine Comes.last aa hU.p4 [] ?_ ?_
    ·simp only [HM, FT, IB, ag, E.b, E.i, E.v, Env.ext, aO]; rw [xl]; omega
    ·simp only [HM, FT, IB, ag, E.b, E.i, E.v, Env.ext, aO]; unfold er; rw [hs]; simp only [if_pos hn, AS]
   ·refine Comes.last aa hU.p5 [] ?_ ?_
    ·simp only [HM, FT, IB, ag, E.b, E.i, E.v, Env.ext, aO]; rw [xl]; omega
    ·simp only [HM, FT, IB, ag, E.b, E.i, E.v, Env.ext, aO]; unfold er; rw [hs]; simp only [if_neg hn]
  | succ t ih =>
   intro i s i' ht hi h0 h1 hs
   subst hi
   obtain ⟨w, hw⟩ : ∃ e', l[i]? = some e' := ⟨_, List.getElem?_eq_getElem (by omega)⟩
   have gw := hx.get hw
   rw [uq hw] at hs
   by_cases a : w < 0
   ·rw [if_pos (.inl a)] at hs
    refine Comes.last aa hU.p1 [] ?_ ?_
    ·simp only [HM, FT, IB, ag, E.b, E.i, E.v, Env.ext, aO]; rw [xl, gw]; omega
    ·simp only [HM, FT, IB, ag, E.b, E.i, E.v, Env.ext, aO]; unfold er; rw [hs]
   ·by_cases b : G < w
    ·rw [if_pos (.inr b)] at hs
     refine Comes.last aa hU.p2 [] ?_ ?_
     ·simp only [HM, FT, IB, ag, E.b, E.i, E.v, Env.ext, aO]; rw [xl, gw]; omega
     ·simp only [HM, FT, IB, ag, E.b, E.i, E.v, Env.ext, aO]; unfold er; rw [hs]
    ·rw [if_neg (by omega)] at hs
     have nx := ih (i + 1) (s + w) ((i : Int) + 1) (by omega) (by omega) (by omega) (by omega) hs
     rw [<- gw] at nx
     refine Comes.step aa hU.p3 [] ?_ nx
     simp only [HM, FT, IB, ag, E.b, E.i, E.v, Env.ext, aO]; rw [xl, gw]; omega
 exact Fn.of (C := hU.K) hU.b (Comes.step aa hU.p0 [] trivial (loop l.length 0 0 0 (by omega) rfl (by omega) (by omega) rfl))
theorem pg {x : V} {l : List Int} (hx : Zs x l) (hl : l.length <= 1000) {G : Int} (n : Int) (g1 : 0 <= G) (g2 : G <= 12) : Fn prog ph.f [x, .int n, .int G] (.bool (er G n l)) := by
 have xl := hx.len
 have loop : ∀ (t i : Nat) (s i' : Int), t + i = l.length -> i' = i -> 0 <= s -> s <= 12 * i -> ny G 0 l = ny G s (l.drop i) -> Comes ph.K ph.f ph.s1 ⟨[s, i'], [], [x, .int n, .int G]⟩ (.bool (er G n l)) := by
  intro t
  induction t with
  | zero =>
   intro i s i' ht hi h0 h1 hs
   subst hi
   have : i = l.length := by omega
   subst this
   rw [List.drop_length] at hs
   have hs : ny G 0 l = some s := hs
   by_cases hn : (l.length : Int) = n
   ·refine Comes.last aa ph.p4 [] ?_ ?_
    ·simp only [HM, FT, IB, ag, E.b, E.i, E.v, Env.ext, aO]; rw [xl]; omega
    ·simp only [HM, FT, IB, ag, E.b, E.i, E.v, Env.ext, aO]; unfold er; rw [hs]; simp only [if_pos hn, AS]
   ·refine Comes.last aa ph.p5 [] ?_ ?_
    ·simp only [HM, FT, IB, ag, E.b, E.i, E.v, Env.ext, aO]; rw [xl]; omega
    ·simp only [HM, FT, IB, ag, E.b, E.i, E.v, Env.ext, aO]; unfold er; rw [hs]; simp only [if_neg hn]
  | succ t ih =>
   intro i s i' ht hi h0 h1 hs
   subst hi
   obtain ⟨w, hw⟩ : ∃ e', l[i]? = some e' := ⟨_, List.getElem?_eq_getElem (by omega)⟩
   have gw := hx.get hw
   rw [uq hw] at hs
   by_cases a : w < 0
   ·rw [if_pos (.inl a)] at hs
    refine Comes.last aa ph.p1 [] ?_ ?_
    ·simp only [HM, FT, IB, ag, E.b, E.i, E.v, Env.ext, aO]; rw [xl, gw]; omega
    ·simp only [HM, FT, IB, ag, E.b, E.i, E.v, Env.ext, aO]; unfold er; rw [hs]
   ·by_cases b : G < w
    ·rw [if_pos (.inr b)] at hs
     refine Comes.last aa ph.p2 [] ?_ ?_
     ·simp only [HM, FT, IB, ag, E.b, E.i, E.v, Env.ext, aO]; rw [xl, gw]; omega
     ·simp only [HM, FT, IB, ag, E.b, E.i, E.v, Env.ext, aO]; unfold er; rw [hs]
    ·rw [if_neg (by omega)] at hs
     have nx := ih (i + 1) (s + w) ((i : Int) + 1) (by omega) (by omega) (by omega) (by omega) hs
     rw [<- gw] at nx
     refine Comes.step aa ph.p3 [] ?_ nx
     simp only [HM, FT, IB, ag, E.b, E.i, E.v, Env.ext, aO]; rw [xl, gw]; omega
 exact Fn.of (C := ph.K) ph.b (Comes.step aa ph.p0 [] trivial (loop l.length 0 0 0 (by omega) rfl (by omega) (by omega) rfl))
end X
namespace X
open Go Go.a9 Go.Sym
def nX (G n : Int) (rows : List (List Int)) : Bool := rows.all (er G n)
theorem sS {R : V} {rows : List (List Int)} (Ah : cT R rows) (hl : rows.length <= 1000) (h6 : ∀ r ∈ rows, r.length <= 1000) {G : Int} (k n : Int) (g1 : 0 <= G) (g2 : G <= 12) : Fn prog lJ.f [R, .int k, .int n, .int G] (.bool (nX G n rows && decide ((rows.length : Int) = k))) := by
 have xl := Ah.cX
 have loop : ∀ (t i : Nat) (i' : Int), t + i = rows.length -> i' = i -> Comes lJ.K lJ.f lJ.s1 ⟨[i'], [], [R, .int k, .int n, .int G]⟩ (.bool ((rows.drop i).all (er G n) && decide ((rows.length : Int) = k))) := by
  intro t
  induction t with
  | zero =>
   intro i i' ht hi
   subst hi
   rw [List.drop_eq_nil_of_le (by omega)]
   refine Comes.last aa lJ.p3 [] ?_ ?_
   ·simp only [HM, FT, IB, ag, E.b, E.i, E.v, Env.ext, aO]; rw [xl]; omega
   ·simp only [HM, FT, IB, ag, E.b, E.i, E.v, Env.ext, aO]; rw [xl]; simp [AS]
  | succ t ih =>
   intro i i' ht hi
   subst hi
   obtain ⟨r, hr⟩ : ∃ e', rows[i]? = some e' := ⟨_, List.getElem?_eq_getElem (by omega)⟩
   have hz := Ah.row i r hr
   have f := uK hz (h6 r (List.mem_of_getElem? hr)) n g1 g2
   have hd : rows.drop i = r :: rows.drop (i + 1) := by
    have hlt := (List.getElem?_eq_some_iff.1 hr).1
    rw [List.drop_eq_getElem_cons hlt]
    rw [List.getElem?_eq_getElem hlt] at hr
    cases hr; rfl
   rw [hd]
   simp only [List.all_cons]
   cases hb : er G n r with
   | false =>
    rw [hb] at f
    simp only [Bool.false_and]
    refine Comes.last aa lJ.p1 [.bool false] ?_ (by simp [E.v, Env.ext, E.b])
    simp only [HM, FT, IB, ag, E.b, E.i, E.v, Env.ext, aO]; rw [xl]
    exact ⟨by omega, by omega, f⟩
   | true =>
    rw [hb] at f
    simp only [Bool.true_and]
    refine Comes.step aa lJ.p2 [.bool true] ?_ (ih (i + 1) ((i : Int) + 1) (by omega) (by omega))
    simp only [HM, FT, IB, ag, E.b, E.i, E.v, Env.ext, aO]; rw [xl]
    exact ⟨by omega, by omega, f, by omega⟩
 have := loop rows.length 0 0 (by omega) rfl
 rw [List.drop_zero] at this
 exact Fn.of (C := lJ.K) lJ.b (Comes.step aa lJ.p0 [] trivial this)
end X
