/-
  DERIVED. GIVEN WITH THE SEED: THE CARDS: each row of YtkkffccdkbijkaaDoorRows.lean that lists a variable, with what it lists TIED to the program's text (the seventh form; the later family's looks); each row that meets fmt, with fmt's text TOLD by the authors' own Lean function (tested against real Go, not proved from fmt's source: count such statements apart). THE CARD IS WHAT COUNTS. Prove the row's statement (the work); the ties are given (YtkkffccdkbijkaaDoorTie.lean); close each card by the builder's one call (the guide's Derived/Test/ToyasCard.lean, 'card_holds'). Laid BY PROGRAM, IN A SANDBOX (cutbox-door.mjs). By AI agents, Wed Nov 11 2026. No macro, syntax, notation, axiom, sorry.
-/
import Derived.Test.YtkkffccdkbijkaaDoorRows
import GoSem.ClaimSeven
namespace Go.Proofs.YtkkffccdkbijkaaDoor
namespace Rows

/-- THE TIED CARD OF 'tabularylaw09.PaxOvers'. -/
def paxOversCard : Claim7 := { stood := { row := paxOversRow, standIns := [], harness := (true, "0318a1592e145987cf66820700b616551d0a7d5a9538ba7461bba74d33c29dc4"), looks := true }, kinds := [], alts := [], laidByText := true, laidKinds := [.data, .data, .data], laidTests := true, laidLooks := .later }
def PaxOversCardSaid : Prop := Claim7.holds Tryd.pinned (.plain (OpenSpec.ofChange paxOversSpec)) paxOversCard

/-- THE TIED CARD OF 'tabularylaw09.PaxLengths'. -/
def paxLengthsCard : Claim7 := { stood := { row := paxLengthsRow, standIns := [], harness := (true, "0318a1592e145987cf66820700b616551d0a7d5a9538ba7461bba74d33c29dc4"), looks := true }, kinds := [], alts := [], laidByText := true, laidKinds := [.data, .data, .data, .sentinel, .sentinel], laidTests := true, laidLooks := .later }
def PaxLengthsCardSaid : Prop := Claim7.holds Tryd.pinned (.plain (OpenSpec.ofChange paxLengthsSpec)) paxLengthsCard

/-- THE TIED CARD OF 'tabularylaw09.PaxBack'. -/
def paxBackCard : Claim7 := { stood := { row := paxBackRow, standIns := [], harness := (true, "0318a1592e145987cf66820700b616551d0a7d5a9538ba7461bba74d33c29dc4"), looks := true }, kinds := [], alts := [], laidByText := true, laidKinds := [.data, .data, .data, .sentinel, .sentinel], laidTests := true, laidLooks := .later }
def PaxBackCardSaid : Prop := Claim7.holds Tryd.pinned (.plain (OpenSpec.ofChange paxBackSpec)) paxBackCard

/-- THE TIED CARD OF 'tabularylaw09.PaxOwn'. -/
def paxOwnCard : Claim7 := { stood := { row := paxOwnRow, standIns := [], harness := (true, "0318a1592e145987cf66820700b616551d0a7d5a9538ba7461bba74d33c29dc4"), looks := true }, kinds := [], alts := [], laidByText := true, laidKinds := [.data, .data, .data, .sentinel, .sentinel], laidTests := true, laidLooks := .later }
def PaxOwnCardSaid : Prop := Claim7.holds Tryd.pinned (.plain (OpenSpec.ofChange paxOwnSpec)) paxOwnCard

/-- THE TIED CARD OF 'tabularylaw09.PaxKnown'. -/
def paxKnownCard : Claim7 := { stood := { row := paxKnownRow, standIns := [], harness := (true, "0318a1592e145987cf66820700b616551d0a7d5a9538ba7461bba74d33c29dc4"), looks := true }, kinds := [], alts := [], laidByText := true, laidKinds := [.data, .data, .data, .sentinel, .sentinel], laidTests := true, laidLooks := .later }
def PaxKnownCardSaid : Prop := Claim7.holds Tryd.pinned (.plain (OpenSpec.ofChange paxKnownSpec)) paxKnownCard

/-- THE TIED CARD OF 'tabularylaw09.PaxLaid'. -/
def paxLaidCard : Claim7 := { stood := { row := paxLaidRow, standIns := [], harness := (true, "0318a1592e145987cf66820700b616551d0a7d5a9538ba7461bba74d33c29dc4"), looks := true }, kinds := [], alts := [], laidByText := true, laidKinds := [.data, .data, .data, .sentinel, .sentinel], laidTests := true, laidLooks := .later }
def PaxLaidCardSaid : Prop := Claim7.holds Tryd.pinned (.plain (OpenSpec.ofChange paxLaidSpec)) paxLaidCard

/-- THE SECOND FORM's CARD OF 'tabularylaw09.PaxOvers'. -/
def paxOversUptoCard : Claim7 := { stood := { row := paxOversUptoRow, standIns := [], harness := (true, "0318a1592e145987cf66820700b616551d0a7d5a9538ba7461bba74d33c29dc4"), looks := true }, kinds := [], alts := [], laidByText := true, laidKinds := [.data, .data, .data], laidTests := true, laidLooks := .later }
def PaxOversUptoCardSaid : Prop := Claim7.holds Tryd.pinned (.plain (OpenSpec.upto paxOversSpec)) paxOversUptoCard

/-- THE SECOND FORM's CARD OF 'tabularylaw09.PaxLengths'. -/
def paxLengthsUptoCard : Claim7 := { stood := { row := paxLengthsUptoRow, standIns := [], harness := (true, "0318a1592e145987cf66820700b616551d0a7d5a9538ba7461bba74d33c29dc4"), looks := true }, kinds := [], alts := [], laidByText := true, laidKinds := [.data, .data, .data, .sentinel, .sentinel], laidTests := true, laidLooks := .later }
def PaxLengthsUptoCardSaid : Prop := Claim7.holds Tryd.pinned (.plain (OpenSpec.upto paxLengthsSpec)) paxLengthsUptoCard

/-- THE SECOND FORM's CARD OF 'tabularylaw09.PaxBack'. -/
def paxBackUptoCard : Claim7 := { stood := { row := paxBackUptoRow, standIns := [], harness := (true, "0318a1592e145987cf66820700b616551d0a7d5a9538ba7461bba74d33c29dc4"), looks := true }, kinds := [], alts := [], laidByText := true, laidKinds := [.data, .data, .data, .sentinel, .sentinel], laidTests := true, laidLooks := .later }
def PaxBackUptoCardSaid : Prop := Claim7.holds Tryd.pinned (.plain (OpenSpec.upto paxBackSpec)) paxBackUptoCard

/-- THE SECOND FORM's CARD OF 'tabularylaw09.PaxOwn'. -/
def paxOwnUptoCard : Claim7 := { stood := { row := paxOwnUptoRow, standIns := [], harness := (true, "0318a1592e145987cf66820700b616551d0a7d5a9538ba7461bba74d33c29dc4"), looks := true }, kinds := [], alts := [], laidByText := true, laidKinds := [.data, .data, .data, .sentinel, .sentinel], laidTests := true, laidLooks := .later }
def PaxOwnUptoCardSaid : Prop := Claim7.holds Tryd.pinned (.plain (OpenSpec.upto paxOwnSpec)) paxOwnUptoCard

/-- THE SECOND FORM's CARD OF 'tabularylaw09.PaxKnown'. -/
def paxKnownUptoCard : Claim7 := { stood := { row := paxKnownUptoRow, standIns := [], harness := (true, "0318a1592e145987cf66820700b616551d0a7d5a9538ba7461bba74d33c29dc4"), looks := true }, kinds := [], alts := [], laidByText := true, laidKinds := [.data, .data, .data, .sentinel, .sentinel], laidTests := true, laidLooks := .later }
def PaxKnownUptoCardSaid : Prop := Claim7.holds Tryd.pinned (.plain (OpenSpec.upto paxKnownSpec)) paxKnownUptoCard

/-- THE SECOND FORM's CARD OF 'tabularylaw09.PaxLaid'. -/
def paxLaidUptoCard : Claim7 := { stood := { row := paxLaidUptoRow, standIns := [], harness := (true, "0318a1592e145987cf66820700b616551d0a7d5a9538ba7461bba74d33c29dc4"), looks := true }, kinds := [], alts := [], laidByText := true, laidKinds := [.data, .data, .data, .sentinel, .sentinel], laidTests := true, laidLooks := .later }
def PaxLaidUptoCardSaid : Prop := Claim7.holds Tryd.pinned (.plain (OpenSpec.upto paxLaidSpec)) paxLaidUptoCard
end Rows
end Go.Proofs.YtkkffccdkbijkaaDoor
