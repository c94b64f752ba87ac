/-
  DERIVED. GIVEN WITH THE SEED: THE CARDS: each row of YtildjgdhdcoojaaDoorRows.lean that lists a variable, with what it lists TIED to the program's text (the seventh form; the later family's looks); each row that meets fmt, with fmt's text TOLD by the authors' own Lean function (tested against real Go, not proved from fmt's source: count such statements apart). THE CARD IS WHAT COUNTS. Prove the row's statement (the work); the ties are given (YtildjgdhdcoojaaDoorTie.lean); close each card by the builder's one call (the guide's Derived/Test/ToyasCard.lean, 'card_holds'). Laid BY PROGRAM, IN A SANDBOX (cutbox-door.mjs). By AI agents, Wed Nov 11 2026. No macro, syntax, notation, axiom, sorry.
-/
import Derived.Test.YtildjgdhdcoojaaDoorRows
import GoSem.ClaimSeven
namespace Go.Proofs.YtildjgdhdcoojaaDoor
namespace Rows

/-- THE TIED CARD OF 'haruspexlaw17.HiddenTables'. -/
def hiddenTablesCard : Claim7 := { stood := { row := hiddenTablesRow, standIns := [], harness := (true, "382399efa58cc649eb9bf680a3bb0881f63af3c510c7d9ff906191124c53b025"), looks := true }, kinds := [], alts := [], laidByText := true, laidKinds := [.funcs], laidTests := true, laidLooks := .later }
def HiddenTablesCardSaid : Prop := Claim7.holds Tryd.pinned (.plain (OpenSpec.ofChange hiddenTablesSpec)) hiddenTablesCard

/-- THE TIED CARD OF 'haruspexlaw17.HiddenPredicts'. -/
def hiddenPredictsCard : Claim7 := { stood := { row := hiddenPredictsRow, standIns := [], harness := (true, "382399efa58cc649eb9bf680a3bb0881f63af3c510c7d9ff906191124c53b025"), looks := true }, kinds := [], alts := [], laidByText := true, laidKinds := [.funcs], laidTests := true, laidLooks := .later }
def HiddenPredictsCardSaid : Prop := Claim7.holds Tryd.pinned (.plain (OpenSpec.ofChange hiddenPredictsSpec)) hiddenPredictsCard

/-- THE TIED CARD OF 'haruspexlaw17.HiddenMeets'. -/
def hiddenMeetsCard : Claim7 := { stood := { row := hiddenMeetsRow, standIns := [], harness := (true, "382399efa58cc649eb9bf680a3bb0881f63af3c510c7d9ff906191124c53b025"), looks := true }, kinds := [], alts := [], laidByText := true, laidKinds := [.funcs], laidTests := true, laidLooks := .later }
def HiddenMeetsCardSaid : Prop := Claim7.holds Tryd.pinned (.plain (OpenSpec.ofChange hiddenMeetsSpec)) hiddenMeetsCard

/-- THE TIED CARD OF 'haruspexlaw17.HiddenKnows'. -/
def hiddenKnowsCard : Claim7 := { stood := { row := hiddenKnowsRow, standIns := [], harness := (true, "382399efa58cc649eb9bf680a3bb0881f63af3c510c7d9ff906191124c53b025"), looks := true }, kinds := [], alts := [], laidByText := true, laidKinds := [.funcs], laidTests := true, laidLooks := .later }
def HiddenKnowsCardSaid : Prop := Claim7.holds Tryd.pinned (.plain (OpenSpec.ofChange hiddenKnowsSpec)) hiddenKnowsCard

/-- THE TIED CARD OF 'haruspexlaw17.HiddenEnds'. -/
def hiddenEndsCard : Claim7 := { stood := { row := hiddenEndsRow, standIns := [], harness := (true, "382399efa58cc649eb9bf680a3bb0881f63af3c510c7d9ff906191124c53b025"), looks := true }, kinds := [], alts := [], laidByText := true, laidKinds := [.funcs], laidTests := true, laidLooks := .later }
def HiddenEndsCardSaid : Prop := Claim7.holds Tryd.pinned (.plain (OpenSpec.ofChange hiddenEndsSpec)) hiddenEndsCard

/-- THE TIED CARD OF 'haruspexlaw17.HiddenNets'. -/
def hiddenNetsCard : Claim7 := { stood := { row := hiddenNetsRow, standIns := [], harness := (true, "382399efa58cc649eb9bf680a3bb0881f63af3c510c7d9ff906191124c53b025"), looks := true }, kinds := [], alts := [], laidByText := true, laidKinds := [.funcs], laidTests := true, laidLooks := .later }
def HiddenNetsCardSaid : Prop := Claim7.holds Tryd.pinned (.plain (OpenSpec.ofChange hiddenNetsSpec)) hiddenNetsCard

/-- THE TIED CARD OF 'haruspexlaw17.HiddenJoint'. -/
def hiddenJointCard : Claim7 := { stood := { row := hiddenJointRow, standIns := [], harness := (true, "382399efa58cc649eb9bf680a3bb0881f63af3c510c7d9ff906191124c53b025"), looks := true }, kinds := [], alts := [], laidByText := true, laidKinds := [.funcs], laidTests := true, laidLooks := .later }
def HiddenJointCardSaid : Prop := Claim7.holds Tryd.pinned (.plain (OpenSpec.ofChange hiddenJointSpec)) hiddenJointCard

/-- THE SECOND FORM's CARD OF 'haruspexlaw17.HiddenTables'. -/
def hiddenTablesUptoCard : Claim7 := { stood := { row := hiddenTablesUptoRow, standIns := [], harness := (true, "382399efa58cc649eb9bf680a3bb0881f63af3c510c7d9ff906191124c53b025"), looks := true }, kinds := [], alts := [], laidByText := true, laidKinds := [.funcs], laidTests := true, laidLooks := .later }
def HiddenTablesUptoCardSaid : Prop := Claim7.holds Tryd.pinned (.plain (OpenSpec.upto hiddenTablesSpec)) hiddenTablesUptoCard

/-- THE SECOND FORM's CARD OF 'haruspexlaw17.HiddenPredicts'. -/
def hiddenPredictsUptoCard : Claim7 := { stood := { row := hiddenPredictsUptoRow, standIns := [], harness := (true, "382399efa58cc649eb9bf680a3bb0881f63af3c510c7d9ff906191124c53b025"), looks := true }, kinds := [], alts := [], laidByText := true, laidKinds := [.funcs], laidTests := true, laidLooks := .later }
def HiddenPredictsUptoCardSaid : Prop := Claim7.holds Tryd.pinned (.plain (OpenSpec.upto hiddenPredictsSpec)) hiddenPredictsUptoCard

/-- THE SECOND FORM's CARD OF 'haruspexlaw17.HiddenMeets'. -/
def hiddenMeetsUptoCard : Claim7 := { stood := { row := hiddenMeetsUptoRow, standIns := [], harness := (true, "382399efa58cc649eb9bf680a3bb0881f63af3c510c7d9ff906191124c53b025"), looks := true }, kinds := [], alts := [], laidByText := true, laidKinds := [.funcs], laidTests := true, laidLooks := .later }
def HiddenMeetsUptoCardSaid : Prop := Claim7.holds Tryd.pinned (.plain (OpenSpec.upto hiddenMeetsSpec)) hiddenMeetsUptoCard

/-- THE SECOND FORM's CARD OF 'haruspexlaw17.HiddenKnows'. -/
def hiddenKnowsUptoCard : Claim7 := { stood := { row := hiddenKnowsUptoRow, standIns := [], harness := (true, "382399efa58cc649eb9bf680a3bb0881f63af3c510c7d9ff906191124c53b025"), looks := true }, kinds := [], alts := [], laidByText := true, laidKinds := [.funcs], laidTests := true, laidLooks := .later }
def HiddenKnowsUptoCardSaid : Prop := Claim7.holds Tryd.pinned (.plain (OpenSpec.upto hiddenKnowsSpec)) hiddenKnowsUptoCard

/-- THE SECOND FORM's CARD OF 'haruspexlaw17.HiddenEnds'. -/
def hiddenEndsUptoCard : Claim7 := { stood := { row := hiddenEndsUptoRow, standIns := [], harness := (true, "382399efa58cc649eb9bf680a3bb0881f63af3c510c7d9ff906191124c53b025"), looks := true }, kinds := [], alts := [], laidByText := true, laidKinds := [.funcs], laidTests := true, laidLooks := .later }
def HiddenEndsUptoCardSaid : Prop := Claim7.holds Tryd.pinned (.plain (OpenSpec.upto hiddenEndsSpec)) hiddenEndsUptoCard

/-- THE SECOND FORM's CARD OF 'haruspexlaw17.HiddenNets'. -/
def hiddenNetsUptoCard : Claim7 := { stood := { row := hiddenNetsUptoRow, standIns := [], harness := (true, "382399efa58cc649eb9bf680a3bb0881f63af3c510c7d9ff906191124c53b025"), looks := true }, kinds := [], alts := [], laidByText := true, laidKinds := [.funcs], laidTests := true, laidLooks := .later }
def HiddenNetsUptoCardSaid : Prop := Claim7.holds Tryd.pinned (.plain (OpenSpec.upto hiddenNetsSpec)) hiddenNetsUptoCard

/-- THE SECOND FORM's CARD OF 'haruspexlaw17.HiddenJoint'. -/
def hiddenJointUptoCard : Claim7 := { stood := { row := hiddenJointUptoRow, standIns := [], harness := (true, "382399efa58cc649eb9bf680a3bb0881f63af3c510c7d9ff906191124c53b025"), looks := true }, kinds := [], alts := [], laidByText := true, laidKinds := [.funcs], laidTests := true, laidLooks := .later }
def HiddenJointUptoCardSaid : Prop := Claim7.holds Tryd.pinned (.plain (OpenSpec.upto hiddenJointSpec)) hiddenJointUptoCard
end Rows
end Go.Proofs.YtildjgdhdcoojaaDoor
