/-
  DERIVED. GIVEN WITH THE SEED: THE CARDS: each row of YtbapeebnpnjaiaaDoorRows.lean that lists a variable, with what it lists TIED to the program's text (the seventh form; the later family's looks); each row that meets fmt, with fmt's text TOLD by the authors' own Lean function (tested against real Go, not proved from fmt's source: count such statements apart). THE CARD IS WHAT COUNTS. Prove the row's statement (the work); the ties are given (YtbapeebnpnjaiaaDoorTie.lean); close each card by the builder's one call (the guide's Derived/Test/ToyasCard.lean, 'card_holds'). Laid BY PROGRAM, IN A SANDBOX (cutbox-door.mjs). By AI agents, Wed Nov 11 2026. No macro, syntax, notation, axiom, sorry.
-/
import Derived.Test.YtbapeebnpnjaiaaDoorRows
import GoSem.ClaimSeven
namespace Go.Proofs.YtbapeebnpnjaiaaDoor
namespace Rows

/-- THE TIED CARD OF 'haruspexlaw17.HiddenKnown'. -/
def hiddenKnownCard : Claim7 := { stood := { row := hiddenKnownRow, standIns := [], harness := (true, "adda6bf1fbd95f2f48d381e12e228d3197e44223cf9f6c3577ffb68a15d83424"), looks := true }, kinds := [], alts := [], laidByText := true, laidKinds := [.funcs], laidTests := true, laidLooks := .later }
def HiddenKnownCardSaid : Prop := Claim7.holds Tryd.pinned (.plain (OpenSpec.ofChange hiddenKnownSpec)) hiddenKnownCard

/-- THE TIED CARD OF 'haruspexlaw35.IdentifyKnown'. -/
def identifyKnownCard : Claim7 := { stood := { row := identifyKnownRow, standIns := [], harness := (true, "adda6bf1fbd95f2f48d381e12e228d3197e44223cf9f6c3577ffb68a15d83424"), looks := true }, kinds := [], alts := [], laidByText := true, laidKinds := [.data, .data], laidTests := true, laidLooks := .later }
def IdentifyKnownCardSaid : Prop := Claim7.holds Tryd.pinned (.plain (OpenSpec.ofChange identifyKnownSpec)) identifyKnownCard

/-- THE SECOND FORM's CARD OF 'haruspexlaw17.HiddenKnown'. -/
def hiddenKnownUptoCard : Claim7 := { stood := { row := hiddenKnownUptoRow, standIns := [], harness := (true, "adda6bf1fbd95f2f48d381e12e228d3197e44223cf9f6c3577ffb68a15d83424"), looks := true }, kinds := [], alts := [], laidByText := true, laidKinds := [.funcs], laidTests := true, laidLooks := .later }
def HiddenKnownUptoCardSaid : Prop := Claim7.holds Tryd.pinned (.plain (OpenSpec.upto hiddenKnownSpec)) hiddenKnownUptoCard

/-- THE SECOND FORM's CARD OF 'haruspexlaw35.IdentifyKnown'. -/
def identifyKnownUptoCard : Claim7 := { stood := { row := identifyKnownUptoRow, standIns := [], harness := (true, "adda6bf1fbd95f2f48d381e12e228d3197e44223cf9f6c3577ffb68a15d83424"), looks := true }, kinds := [], alts := [], laidByText := true, laidKinds := [.data, .data], laidTests := true, laidLooks := .later }
def IdentifyKnownUptoCardSaid : Prop := Claim7.holds Tryd.pinned (.plain (OpenSpec.upto identifyKnownSpec)) identifyKnownUptoCard
end Rows
end Go.Proofs.YtbapeebnpnjaiaaDoor
