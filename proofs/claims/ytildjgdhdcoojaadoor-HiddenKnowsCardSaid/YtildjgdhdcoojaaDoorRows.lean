/-
  NARROWER THAN 'FOR EVERY INPUT', by the rows' own cells (each row's printed sentence says how): HiddenTables: laid · HiddenPredicts: laid · HiddenMeets: laid · HiddenKnows: laid · HiddenEnds: laid · HiddenNets: laid · HiddenJoint: laid.
  DERIVED. THE GIVEN ROWS OF THIS SEAT. 7 by the template 'for every input the law returns true; each argument reads behind the call as it read before'; 0 by the template 'total and deterministic' (their statements: YtildjgdhdcoojaaDoorTotals.lean).
  GIVEN WITH THE SEED: the statements are not yours to turn. If you find one false, say at which input.
  Laid BY PROGRAM, IN A SANDBOX (cutbox-rows.mjs): the forced cells as the released guide's own fill.sh prints them over the translation ebbfd1413d7ec7de… (all of the seat's roots in one cut). By AI agents, Wed Nov 11 2026. No macro, syntax, notation, axiom, sorry.
-/
import Derived.Test.YtildjgdhdcoojaaDoorChecked
import GoSem.Claim
import GoSem.ClaimJoined
import GoSem.ClaimMapViews
import Derived.JoinedTies
import Derived.KernelRfl
namespace Go.Proofs.YtildjgdhdcoojaaDoor
/- THE CELL 'sum', in the pinned program and in every row, IS THE sha256 OF THE DUMP (.gsa) THAT YtildjgdhdcoojaaDoorProg.lean LOADS. Nothing in Lean hashes anything: it is a label: what it is worth is what the hold of that sum in a sandbox is worth. -/
noncomputable def Tryd.pinned : Pinned := { name := "ytildjgdhdcoojaadoor", sum := "ebbfd1413d7ec7de243cb410c1cc25487f69342423dedeaa7fd0e7362dde917c", checked := Tryd.checked }
namespace Rows
def none {H : Type} : Left H := { results := [], args := [] }

/- WHAT THE LISTED PACKAGE-LEVEL VARIABLES READ AS WHEN THE CALL BEGINS. Each datum BY PROGRAM (the guide's laid-datum.mjs) off the statement by which the dump's own 'gosem.cut.vars' lays the variable. In a bare row this is a premise. The card (YtildjgdhdcoojaaDoorCards.lean) ties it to the program's text. -/
def laid_haruspex_hidden_directions {H : Type} : DataW H := .iface "func table" (.agg [.iface "func" (.lit (.string [40, 104, 97, 114, 117, 115, 112, 101, 120, 47, 104, 105, 100, 100, 101, 110, 46, 119, 97, 116, 99, 104, 101, 114, 41, 46, 117, 112])), .iface "func" (.lit (.string [40, 104, 97, 114, 117, 115, 112, 101, 120, 47, 104, 105, 100, 100, 101, 110, 46, 119, 97, 116, 99, 104, 101, 114, 41, 46, 100, 111, 119, 110]))])

/-- 'haruspexlaw17.HiddenTables': WHATEVER THE INPUT: true; the input reads as it did. -/
def hiddenTablesSpec : ChangeSpec := { name := "hiddenTables", fn := fun _ => fun
  | [d1, d2, d3, d4] => { results := [.lit (.bool true)], args := [d1, d2, d3, d4] }
  | _ => none }
def hiddenTablesRow : OpenClaim := { program := "ytildjgdhdcoojaadoor", sum := "ebbfd1413d7ec7de243cb410c1cc25487f69342423dedeaa7fd0e7362dde917c", func := "haruspex/haruspexlaw17.HiddenTables", spec := "hiddenTables", unfollowed := true, recurses := true, named := ["haruspex/hidden.directions"], plainKeys := false, apart := false, laid := [("haruspex/hidden.directions", laid_haruspex_hidden_directions)] }
def HiddenTablesSaid : Prop := hiddenTablesRow.holds Tryd.pinned (OpenSpec.ofChange hiddenTablesSpec)

/-- ITS FALSE NEIGHBOUR: 'it returns false'. Refute it at one input. -/
def hiddenTablesWrong : ChangeSpec := { name := "hiddenTables", fn := fun _ => fun
  | [d1, d2, d3, d4] => { results := [.lit (.bool false)], args := [d1, d2, d3, d4] }
  | _ => none }
def HiddenTablesWrongFalsely : Prop := hiddenTablesRow.holds Tryd.pinned (OpenSpec.ofChange hiddenTablesWrong)

/-- 'haruspexlaw17.HiddenPredicts': WHATEVER THE INPUT: true; the input reads as it did. -/
def hiddenPredictsSpec : ChangeSpec := { name := "hiddenPredicts", fn := fun _ => fun
  | [d1, d2, d3, d4, d5] => { results := [.lit (.bool true)], args := [d1, d2, d3, d4, d5] }
  | _ => none }
def hiddenPredictsRow : OpenClaim := { program := "ytildjgdhdcoojaadoor", sum := "ebbfd1413d7ec7de243cb410c1cc25487f69342423dedeaa7fd0e7362dde917c", func := "haruspex/haruspexlaw17.HiddenPredicts", spec := "hiddenPredicts", unfollowed := true, recurses := true, named := ["haruspex/hidden.directions"], plainKeys := false, apart := false, laid := [("haruspex/hidden.directions", laid_haruspex_hidden_directions)] }
def HiddenPredictsSaid : Prop := hiddenPredictsRow.holds Tryd.pinned (OpenSpec.ofChange hiddenPredictsSpec)

/-- ITS FALSE NEIGHBOUR: 'it returns false'. Refute it at one input. -/
def hiddenPredictsWrong : ChangeSpec := { name := "hiddenPredicts", fn := fun _ => fun
  | [d1, d2, d3, d4, d5] => { results := [.lit (.bool false)], args := [d1, d2, d3, d4, d5] }
  | _ => none }
def HiddenPredictsWrongFalsely : Prop := hiddenPredictsRow.holds Tryd.pinned (OpenSpec.ofChange hiddenPredictsWrong)

/-- 'haruspexlaw17.HiddenMeets': WHATEVER THE INPUT: true; the input reads as it did. -/
def hiddenMeetsSpec : ChangeSpec := { name := "hiddenMeets", fn := fun _ => fun
  | [d] => { results := [.lit (.bool true)], args := [d] }
  | _ => none }
def hiddenMeetsRow : OpenClaim := { program := "ytildjgdhdcoojaadoor", sum := "ebbfd1413d7ec7de243cb410c1cc25487f69342423dedeaa7fd0e7362dde917c", func := "haruspex/haruspexlaw17.HiddenMeets", spec := "hiddenMeets", unfollowed := true, recurses := true, named := ["haruspex/hidden.directions"], plainKeys := false, apart := false, laid := [("haruspex/hidden.directions", laid_haruspex_hidden_directions)] }
def HiddenMeetsSaid : Prop := hiddenMeetsRow.holds Tryd.pinned (OpenSpec.ofChange hiddenMeetsSpec)

/-- ITS FALSE NEIGHBOUR: 'it returns false'. Refute it at one input. -/
def hiddenMeetsWrong : ChangeSpec := { name := "hiddenMeets", fn := fun _ => fun
  | [d] => { results := [.lit (.bool false)], args := [d] }
  | _ => none }
def HiddenMeetsWrongFalsely : Prop := hiddenMeetsRow.holds Tryd.pinned (OpenSpec.ofChange hiddenMeetsWrong)

/-- 'haruspexlaw17.HiddenKnows': WHATEVER THE INPUT: true; the input reads as it did. -/
def hiddenKnowsSpec : ChangeSpec := { name := "hiddenKnows", fn := fun _ => fun
  | [d1, d2, d3, d4] => { results := [.lit (.bool true)], args := [d1, d2, d3, d4] }
  | _ => none }
def hiddenKnowsRow : OpenClaim := { program := "ytildjgdhdcoojaadoor", sum := "ebbfd1413d7ec7de243cb410c1cc25487f69342423dedeaa7fd0e7362dde917c", func := "haruspex/haruspexlaw17.HiddenKnows", spec := "hiddenKnows", unfollowed := true, recurses := true, named := ["haruspex/hidden.directions"], plainKeys := false, apart := false, laid := [("haruspex/hidden.directions", laid_haruspex_hidden_directions)] }
def HiddenKnowsSaid : Prop := hiddenKnowsRow.holds Tryd.pinned (OpenSpec.ofChange hiddenKnowsSpec)

/-- ITS FALSE NEIGHBOUR: 'it returns false'. Refute it at one input. -/
def hiddenKnowsWrong : ChangeSpec := { name := "hiddenKnows", fn := fun _ => fun
  | [d1, d2, d3, d4] => { results := [.lit (.bool false)], args := [d1, d2, d3, d4] }
  | _ => none }
def HiddenKnowsWrongFalsely : Prop := hiddenKnowsRow.holds Tryd.pinned (OpenSpec.ofChange hiddenKnowsWrong)

/-- 'haruspexlaw17.HiddenEnds': WHATEVER THE INPUT: true; the input reads as it did. -/
def hiddenEndsSpec : ChangeSpec := { name := "hiddenEnds", fn := fun _ => fun
  | [d1, d2] => { results := [.lit (.bool true)], args := [d1, d2] }
  | _ => none }
def hiddenEndsRow : OpenClaim := { program := "ytildjgdhdcoojaadoor", sum := "ebbfd1413d7ec7de243cb410c1cc25487f69342423dedeaa7fd0e7362dde917c", func := "haruspex/haruspexlaw17.HiddenEnds", spec := "hiddenEnds", unfollowed := true, recurses := true, named := ["haruspex/hidden.directions"], plainKeys := false, apart := false, laid := [("haruspex/hidden.directions", laid_haruspex_hidden_directions)] }
def HiddenEndsSaid : Prop := hiddenEndsRow.holds Tryd.pinned (OpenSpec.ofChange hiddenEndsSpec)

/-- ITS FALSE NEIGHBOUR: 'it returns false'. Refute it at one input. -/
def hiddenEndsWrong : ChangeSpec := { name := "hiddenEnds", fn := fun _ => fun
  | [d1, d2] => { results := [.lit (.bool false)], args := [d1, d2] }
  | _ => none }
def HiddenEndsWrongFalsely : Prop := hiddenEndsRow.holds Tryd.pinned (OpenSpec.ofChange hiddenEndsWrong)

/-- 'haruspexlaw17.HiddenNets': WHATEVER THE INPUT: true; the input reads as it did. -/
def hiddenNetsSpec : ChangeSpec := { name := "hiddenNets", fn := fun _ => fun
  | [d1, d2, d3, d4] => { results := [.lit (.bool true)], args := [d1, d2, d3, d4] }
  | _ => none }
def hiddenNetsRow : OpenClaim := { program := "ytildjgdhdcoojaadoor", sum := "ebbfd1413d7ec7de243cb410c1cc25487f69342423dedeaa7fd0e7362dde917c", func := "haruspex/haruspexlaw17.HiddenNets", spec := "hiddenNets", unfollowed := true, recurses := true, named := ["haruspex/hidden.directions"], plainKeys := false, apart := false, laid := [("haruspex/hidden.directions", laid_haruspex_hidden_directions)] }
def HiddenNetsSaid : Prop := hiddenNetsRow.holds Tryd.pinned (OpenSpec.ofChange hiddenNetsSpec)

/-- ITS FALSE NEIGHBOUR: 'it returns false'. Refute it at one input. -/
def hiddenNetsWrong : ChangeSpec := { name := "hiddenNets", fn := fun _ => fun
  | [d1, d2, d3, d4] => { results := [.lit (.bool false)], args := [d1, d2, d3, d4] }
  | _ => none }
def HiddenNetsWrongFalsely : Prop := hiddenNetsRow.holds Tryd.pinned (OpenSpec.ofChange hiddenNetsWrong)

/-- 'haruspexlaw17.HiddenJoint': WHATEVER THE INPUT: true; the input reads as it did. -/
def hiddenJointSpec : ChangeSpec := { name := "hiddenJoint", fn := fun _ => fun
  | [d1, d2] => { results := [.lit (.bool true)], args := [d1, d2] }
  | _ => none }
def hiddenJointRow : OpenClaim := { program := "ytildjgdhdcoojaadoor", sum := "ebbfd1413d7ec7de243cb410c1cc25487f69342423dedeaa7fd0e7362dde917c", func := "haruspex/haruspexlaw17.HiddenJoint", spec := "hiddenJoint", unfollowed := true, recurses := true, named := ["haruspex/hidden.directions"], plainKeys := false, apart := false, laid := [("haruspex/hidden.directions", laid_haruspex_hidden_directions)] }
def HiddenJointSaid : Prop := hiddenJointRow.holds Tryd.pinned (OpenSpec.ofChange hiddenJointSpec)

/-- ITS FALSE NEIGHBOUR: 'it returns false'. Refute it at one input. -/
def hiddenJointWrong : ChangeSpec := { name := "hiddenJoint", fn := fun _ => fun
  | [d1, d2] => { results := [.lit (.bool false)], args := [d1, d2] }
  | _ => none }
def HiddenJointWrongFalsely : Prop := hiddenJointRow.holds Tryd.pinned (OpenSpec.ofChange hiddenJointWrong)

/- THE SECOND FORM. 'bulk': how many values and letters a reading holds, each counted each time it is reached (what is shared counts as often as it is met; a slice's spare places count too). A statement '..UptoSaid' is the law's where the arguments, and the package variables that the reading takes, are together of bulk at most 1048576: NARROWER than '..Said'. Prove '..Said' where nothing that the law and all that it calls make is longer than what came in: it says more and counts as full. Else prove '..UptoSaid'. A law counts once. -/
mutual
def uptoBulk {H : Type} : DataW H → Nat
  | .lit (.string bytes) => bytes.length + 1
  | .lit _ => 1
  | .nil => 1
  | .ptr d => uptoBulk d + 1
  | .slice elems spare => uptoBulkAll elems + uptoBulkAll spare + 1
  | .agg parts => uptoBulkAll parts + 1
  | .iface _ d => uptoBulk d + 1
  | .map entries => uptoBulkEntries entries + 1
  | .held _ => 1
def uptoBulkAll {H : Type} : List (DataW H) → Nat
  | [] => 0
  | d :: r => uptoBulk d + uptoBulkAll r
def uptoBulkEntries {H : Type} : List (Lit × DataW H) → Nat
  | [] => 0
  | x :: r => uptoBulkEntry x + uptoBulkEntries r
def uptoBulkEntry {H : Type} : Lit × DataW H → Nat
  | (.string bytes, d) => bytes.length + uptoBulk d + 1
  | (_, d) => uptoBulk d + 1
 end
def uptoSmall : (H : Type) → List (DataW H) → Bool := fun _ ds => decide (uptoBulkAll ds ≤ 1048576)
def OpenSpec.upto (s : _root_.Go.ChangeSpec) : _root_.Go.OpenSpec := { _root_.Go.OpenSpec.ofChange s with cond := some uptoSmall }

/-- 'haruspexlaw17.HiddenTables', WHERE WHAT IT READS IS OF BULK AT MOST 1048576: true; the input reads as it did. -/
def hiddenTablesUptoRow : OpenClaim := { program := "ytildjgdhdcoojaadoor", sum := "ebbfd1413d7ec7de243cb410c1cc25487f69342423dedeaa7fd0e7362dde917c", func := "haruspex/haruspexlaw17.HiddenTables", spec := "hiddenTables", unfollowed := true, recurses := true, named := ["haruspex/hidden.directions"], plainKeys := false, apart := false, laid := [("haruspex/hidden.directions", laid_haruspex_hidden_directions)], narrowed := true }
def HiddenTablesUptoSaid : Prop := hiddenTablesUptoRow.holds Tryd.pinned (OpenSpec.upto hiddenTablesSpec)

/-- 'haruspexlaw17.HiddenPredicts', WHERE WHAT IT READS IS OF BULK AT MOST 1048576: true; the input reads as it did. -/
def hiddenPredictsUptoRow : OpenClaim := { program := "ytildjgdhdcoojaadoor", sum := "ebbfd1413d7ec7de243cb410c1cc25487f69342423dedeaa7fd0e7362dde917c", func := "haruspex/haruspexlaw17.HiddenPredicts", spec := "hiddenPredicts", unfollowed := true, recurses := true, named := ["haruspex/hidden.directions"], plainKeys := false, apart := false, laid := [("haruspex/hidden.directions", laid_haruspex_hidden_directions)], narrowed := true }
def HiddenPredictsUptoSaid : Prop := hiddenPredictsUptoRow.holds Tryd.pinned (OpenSpec.upto hiddenPredictsSpec)

/-- 'haruspexlaw17.HiddenMeets', WHERE WHAT IT READS IS OF BULK AT MOST 1048576: true; the input reads as it did. -/
def hiddenMeetsUptoRow : OpenClaim := { program := "ytildjgdhdcoojaadoor", sum := "ebbfd1413d7ec7de243cb410c1cc25487f69342423dedeaa7fd0e7362dde917c", func := "haruspex/haruspexlaw17.HiddenMeets", spec := "hiddenMeets", unfollowed := true, recurses := true, named := ["haruspex/hidden.directions"], plainKeys := false, apart := false, laid := [("haruspex/hidden.directions", laid_haruspex_hidden_directions)], narrowed := true }
def HiddenMeetsUptoSaid : Prop := hiddenMeetsUptoRow.holds Tryd.pinned (OpenSpec.upto hiddenMeetsSpec)

/-- 'haruspexlaw17.HiddenKnows', WHERE WHAT IT READS IS OF BULK AT MOST 1048576: true; the input reads as it did. -/
def hiddenKnowsUptoRow : OpenClaim := { program := "ytildjgdhdcoojaadoor", sum := "ebbfd1413d7ec7de243cb410c1cc25487f69342423dedeaa7fd0e7362dde917c", func := "haruspex/haruspexlaw17.HiddenKnows", spec := "hiddenKnows", unfollowed := true, recurses := true, named := ["haruspex/hidden.directions"], plainKeys := false, apart := false, laid := [("haruspex/hidden.directions", laid_haruspex_hidden_directions)], narrowed := true }
def HiddenKnowsUptoSaid : Prop := hiddenKnowsUptoRow.holds Tryd.pinned (OpenSpec.upto hiddenKnowsSpec)

/-- 'haruspexlaw17.HiddenEnds', WHERE WHAT IT READS IS OF BULK AT MOST 1048576: true; the input reads as it did. -/
def hiddenEndsUptoRow : OpenClaim := { program := "ytildjgdhdcoojaadoor", sum := "ebbfd1413d7ec7de243cb410c1cc25487f69342423dedeaa7fd0e7362dde917c", func := "haruspex/haruspexlaw17.HiddenEnds", spec := "hiddenEnds", unfollowed := true, recurses := true, named := ["haruspex/hidden.directions"], plainKeys := false, apart := false, laid := [("haruspex/hidden.directions", laid_haruspex_hidden_directions)], narrowed := true }
def HiddenEndsUptoSaid : Prop := hiddenEndsUptoRow.holds Tryd.pinned (OpenSpec.upto hiddenEndsSpec)

/-- 'haruspexlaw17.HiddenNets', WHERE WHAT IT READS IS OF BULK AT MOST 1048576: true; the input reads as it did. -/
def hiddenNetsUptoRow : OpenClaim := { program := "ytildjgdhdcoojaadoor", sum := "ebbfd1413d7ec7de243cb410c1cc25487f69342423dedeaa7fd0e7362dde917c", func := "haruspex/haruspexlaw17.HiddenNets", spec := "hiddenNets", unfollowed := true, recurses := true, named := ["haruspex/hidden.directions"], plainKeys := false, apart := false, laid := [("haruspex/hidden.directions", laid_haruspex_hidden_directions)], narrowed := true }
def HiddenNetsUptoSaid : Prop := hiddenNetsUptoRow.holds Tryd.pinned (OpenSpec.upto hiddenNetsSpec)

/-- 'haruspexlaw17.HiddenJoint', WHERE WHAT IT READS IS OF BULK AT MOST 1048576: true; the input reads as it did. -/
def hiddenJointUptoRow : OpenClaim := { program := "ytildjgdhdcoojaadoor", sum := "ebbfd1413d7ec7de243cb410c1cc25487f69342423dedeaa7fd0e7362dde917c", func := "haruspex/haruspexlaw17.HiddenJoint", spec := "hiddenJoint", unfollowed := true, recurses := true, named := ["haruspex/hidden.directions"], plainKeys := false, apart := false, laid := [("haruspex/hidden.directions", laid_haruspex_hidden_directions)], narrowed := true }
def HiddenJointUptoSaid : Prop := hiddenJointUptoRow.holds Tryd.pinned (OpenSpec.upto hiddenJointSpec)

end Rows
end Go.Proofs.YtildjgdhdcoojaaDoor
