/-
  No cell of these rows narrows 'for every input' (looked for: loops, veiled, ifaces, maps, wideKeys, modest, calm, conditions, laid).
  DERIVED. THE GIVEN ROWS OF THIS SEAT. 5 by the template 'for every input the law returns true; each argument reads behind the call as it read before'; 0 by the template 'total and deterministic' (their statements: YtljmicpaheaemaaTotals.lean).
  GIVEN WITH THE SEED: the statements are not yours to turn. If you find one false, say at which input.
  Laid BY PROGRAM, IN A SANDBOX (cutbox-rows.mjs): the forced cells as the released guide's own fill.sh prints them over the translation eda45f92fb12aca0… (all of the seat's roots in one cut). By AI agents, Wed Nov 11 2026. No macro, syntax, notation, axiom, sorry.
-/
import Derived.Test.YtljmicpaheaemaaChecked
import GoSem.Claim
import GoSem.ClaimJoined
import GoSem.ClaimMapViews
import Derived.JoinedTies
import Derived.KernelRfl
namespace Go.Proofs.Ytljmicpaheaemaa
/- THE CELL 'sum', in the pinned program and in every row, IS THE sha256 OF THE DUMP (.gsa) THAT YtljmicpaheaemaaProg.lean LOADS. Nothing in Lean hashes anything: it is a label: what it is worth is what the hold of that sum in a sandbox is worth. -/
noncomputable def Try.pinned : Pinned := { name := "ytljmicpaheaemaa", sum := "eda45f92fb12aca0843d06137e34c9672f46e0055f37bac3f65a755fc0c0db3e", checked := Try.checked }
namespace Rows
def none {H : Type} : Left H := { results := [], args := [] }

/-- 'haruspexlaw14.LiftKnown': WHATEVER THE INPUT: true; the input reads as it did. -/
def liftKnownSpec : ChangeSpec := { name := "liftKnown", fn := fun _ => fun
  | [] => { results := [.lit (.bool true)], args := [] }
  | _ => none }
def liftKnownRow : OpenClaim := { program := "ytljmicpaheaemaa", sum := "eda45f92fb12aca0843d06137e34c9672f46e0055f37bac3f65a755fc0c0db3e", func := "haruspex/haruspexlaw14.LiftKnown", spec := "liftKnown", unfollowed := true, recurses := true, plainKeys := false, apart := false }
def LiftKnownSaid : Prop := liftKnownRow.holds Try.pinned (OpenSpec.ofChange liftKnownSpec)

/-- ITS FALSE NEIGHBOUR: 'it returns false'. Refute it at one input. -/
def liftKnownWrong : ChangeSpec := { name := "liftKnown", fn := fun _ => fun
  | [] => { results := [.lit (.bool false)], args := [] }
  | _ => none }
def LiftKnownWrongFalsely : Prop := liftKnownRow.holds Try.pinned (OpenSpec.ofChange liftKnownWrong)

/-- 'haruspexlaw13.ConditionKnown': WHATEVER THE INPUT: true; the input reads as it did. -/
def conditionKnownSpec : ChangeSpec := { name := "conditionKnown", fn := fun _ => fun
  | [] => { results := [.lit (.bool true)], args := [] }
  | _ => none }
def conditionKnownRow : OpenClaim := { program := "ytljmicpaheaemaa", sum := "eda45f92fb12aca0843d06137e34c9672f46e0055f37bac3f65a755fc0c0db3e", func := "haruspex/haruspexlaw13.ConditionKnown", spec := "conditionKnown", unfollowed := true, recurses := true, plainKeys := false, apart := false }
def ConditionKnownSaid : Prop := conditionKnownRow.holds Try.pinned (OpenSpec.ofChange conditionKnownSpec)

/-- ITS FALSE NEIGHBOUR: 'it returns false'. Refute it at one input. -/
def conditionKnownWrong : ChangeSpec := { name := "conditionKnown", fn := fun _ => fun
  | [] => { results := [.lit (.bool false)], args := [] }
  | _ => none }
def ConditionKnownWrongFalsely : Prop := conditionKnownRow.holds Try.pinned (OpenSpec.ofChange conditionKnownWrong)

/-- 'haruspexlaw24.SensitiveKnown': WHATEVER THE INPUT: true; the input reads as it did. -/
def sensitiveKnownSpec : ChangeSpec := { name := "sensitiveKnown", fn := fun _ => fun
  | [] => { results := [.lit (.bool true)], args := [] }
  | _ => none }
def sensitiveKnownRow : OpenClaim := { program := "ytljmicpaheaemaa", sum := "eda45f92fb12aca0843d06137e34c9672f46e0055f37bac3f65a755fc0c0db3e", func := "haruspex/haruspexlaw24.SensitiveKnown", spec := "sensitiveKnown", unfollowed := true, recurses := true, plainKeys := false, apart := false }
def SensitiveKnownSaid : Prop := sensitiveKnownRow.holds Try.pinned (OpenSpec.ofChange sensitiveKnownSpec)

/-- ITS FALSE NEIGHBOUR: 'it returns false'. Refute it at one input. -/
def sensitiveKnownWrong : ChangeSpec := { name := "sensitiveKnown", fn := fun _ => fun
  | [] => { results := [.lit (.bool false)], args := [] }
  | _ => none }
def SensitiveKnownWrongFalsely : Prop := sensitiveKnownRow.holds Try.pinned (OpenSpec.ofChange sensitiveKnownWrong)

/-- 'haruspexlaw33.TwinKnown': WHATEVER THE INPUT: true; the input reads as it did. -/
def twinKnownSpec : ChangeSpec := { name := "twinKnown", fn := fun _ => fun
  | [] => { results := [.lit (.bool true)], args := [] }
  | _ => none }
def twinKnownRow : OpenClaim := { program := "ytljmicpaheaemaa", sum := "eda45f92fb12aca0843d06137e34c9672f46e0055f37bac3f65a755fc0c0db3e", func := "haruspex/haruspexlaw33.TwinKnown", spec := "twinKnown", unfollowed := true, recurses := true, plainKeys := false, apart := false }
def TwinKnownSaid : Prop := twinKnownRow.holds Try.pinned (OpenSpec.ofChange twinKnownSpec)

/-- ITS FALSE NEIGHBOUR: 'it returns false'. Refute it at one input. -/
def twinKnownWrong : ChangeSpec := { name := "twinKnown", fn := fun _ => fun
  | [] => { results := [.lit (.bool false)], args := [] }
  | _ => none }
def TwinKnownWrongFalsely : Prop := twinKnownRow.holds Try.pinned (OpenSpec.ofChange twinKnownWrong)

/-- 'haruspexlaw32.ActKnown': WHATEVER THE INPUT: true; the input reads as it did. -/
def actKnownSpec : ChangeSpec := { name := "actKnown", fn := fun _ => fun
  | [] => { results := [.lit (.bool true)], args := [] }
  | _ => none }
def actKnownRow : OpenClaim := { program := "ytljmicpaheaemaa", sum := "eda45f92fb12aca0843d06137e34c9672f46e0055f37bac3f65a755fc0c0db3e", func := "haruspex/haruspexlaw32.ActKnown", spec := "actKnown", unfollowed := true, recurses := true, plainKeys := false, apart := false }
def ActKnownSaid : Prop := actKnownRow.holds Try.pinned (OpenSpec.ofChange actKnownSpec)

/-- ITS FALSE NEIGHBOUR: 'it returns false'. Refute it at one input. -/
def actKnownWrong : ChangeSpec := { name := "actKnown", fn := fun _ => fun
  | [] => { results := [.lit (.bool false)], args := [] }
  | _ => none }
def ActKnownWrongFalsely : Prop := actKnownRow.holds Try.pinned (OpenSpec.ofChange actKnownWrong)

/- THE SECOND FORM. 'bulk': how many values and letters a reading holds, each counted each time it is reached (what is shared counts as often as it is met; a slice's spare places count too). A statement '..UptoSaid' is the law's where the arguments, and the package variables that the reading takes, are together of bulk at most 1048576: NARROWER than '..Said'. Prove '..Said' where nothing that the law and all that it calls make is longer than what came in: it says more and counts as full. Else prove '..UptoSaid'. A law counts once. -/
mutual
def uptoBulk {H : Type} : DataW H → Nat
  | .lit (.string bytes) => bytes.length + 1
  | .lit _ => 1
  | .nil => 1
  | .ptr d => uptoBulk d + 1
  | .slice elems spare => uptoBulkAll elems + uptoBulkAll spare + 1
  | .agg parts => uptoBulkAll parts + 1
  | .iface _ d => uptoBulk d + 1
  | .map entries => uptoBulkEntries entries + 1
  | .held _ => 1
def uptoBulkAll {H : Type} : List (DataW H) → Nat
  | [] => 0
  | d :: r => uptoBulk d + uptoBulkAll r
def uptoBulkEntries {H : Type} : List (Lit × DataW H) → Nat
  | [] => 0
  | x :: r => uptoBulkEntry x + uptoBulkEntries r
def uptoBulkEntry {H : Type} : Lit × DataW H → Nat
  | (.string bytes, d) => bytes.length + uptoBulk d + 1
  | (_, d) => uptoBulk d + 1
 end
def uptoSmall : (H : Type) → List (DataW H) → Bool := fun _ ds => decide (uptoBulkAll ds ≤ 1048576)
def OpenSpec.upto (s : _root_.Go.ChangeSpec) : _root_.Go.OpenSpec := { _root_.Go.OpenSpec.ofChange s with cond := some uptoSmall }

/-- 'haruspexlaw14.LiftKnown', WHERE WHAT IT READS IS OF BULK AT MOST 1048576: true; the input reads as it did. -/
def liftKnownUptoRow : OpenClaim := { program := "ytljmicpaheaemaa", sum := "eda45f92fb12aca0843d06137e34c9672f46e0055f37bac3f65a755fc0c0db3e", func := "haruspex/haruspexlaw14.LiftKnown", spec := "liftKnown", unfollowed := true, recurses := true, plainKeys := false, apart := false, narrowed := true }
def LiftKnownUptoSaid : Prop := liftKnownUptoRow.holds Try.pinned (OpenSpec.upto liftKnownSpec)

/-- 'haruspexlaw13.ConditionKnown', WHERE WHAT IT READS IS OF BULK AT MOST 1048576: true; the input reads as it did. -/
def conditionKnownUptoRow : OpenClaim := { program := "ytljmicpaheaemaa", sum := "eda45f92fb12aca0843d06137e34c9672f46e0055f37bac3f65a755fc0c0db3e", func := "haruspex/haruspexlaw13.ConditionKnown", spec := "conditionKnown", unfollowed := true, recurses := true, plainKeys := false, apart := false, narrowed := true }
def ConditionKnownUptoSaid : Prop := conditionKnownUptoRow.holds Try.pinned (OpenSpec.upto conditionKnownSpec)

/-- 'haruspexlaw24.SensitiveKnown', WHERE WHAT IT READS IS OF BULK AT MOST 1048576: true; the input reads as it did. -/
def sensitiveKnownUptoRow : OpenClaim := { program := "ytljmicpaheaemaa", sum := "eda45f92fb12aca0843d06137e34c9672f46e0055f37bac3f65a755fc0c0db3e", func := "haruspex/haruspexlaw24.SensitiveKnown", spec := "sensitiveKnown", unfollowed := true, recurses := true, plainKeys := false, apart := false, narrowed := true }
def SensitiveKnownUptoSaid : Prop := sensitiveKnownUptoRow.holds Try.pinned (OpenSpec.upto sensitiveKnownSpec)

/-- 'haruspexlaw33.TwinKnown', WHERE WHAT IT READS IS OF BULK AT MOST 1048576: true; the input reads as it did. -/
def twinKnownUptoRow : OpenClaim := { program := "ytljmicpaheaemaa", sum := "eda45f92fb12aca0843d06137e34c9672f46e0055f37bac3f65a755fc0c0db3e", func := "haruspex/haruspexlaw33.TwinKnown", spec := "twinKnown", unfollowed := true, recurses := true, plainKeys := false, apart := false, narrowed := true }
def TwinKnownUptoSaid : Prop := twinKnownUptoRow.holds Try.pinned (OpenSpec.upto twinKnownSpec)

/-- 'haruspexlaw32.ActKnown', WHERE WHAT IT READS IS OF BULK AT MOST 1048576: true; the input reads as it did. -/
def actKnownUptoRow : OpenClaim := { program := "ytljmicpaheaemaa", sum := "eda45f92fb12aca0843d06137e34c9672f46e0055f37bac3f65a755fc0c0db3e", func := "haruspex/haruspexlaw32.ActKnown", spec := "actKnown", unfollowed := true, recurses := true, plainKeys := false, apart := false, narrowed := true }
def ActKnownUptoSaid : Prop := actKnownUptoRow.holds Try.pinned (OpenSpec.upto actKnownSpec)

end Rows
end Go.Proofs.Ytljmicpaheaemaa
