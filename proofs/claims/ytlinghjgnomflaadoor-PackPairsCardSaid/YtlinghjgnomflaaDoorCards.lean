/-
  DERIVED. GIVEN WITH THE SEED: THE CARDS: each row of YtlinghjgnomflaaDoorRows.lean that lists a variable, with what it lists TIED to the program's text (the seventh form; the later family's looks); each row that meets fmt, with fmt's text TOLD by the authors' own Lean function (tested against real Go, not proved from fmt's source: count such statements apart). THE CARD IS WHAT COUNTS. Prove the row's statement (the work); the ties are given (YtlinghjgnomflaaDoorTie.lean); close each card by the builder's one call (the guide's Derived/Test/ToyasCard.lean, 'card_holds'). Laid BY PROGRAM, IN A SANDBOX (cutbox-door.mjs). By AI agents, Wed Nov 11 2026. No macro, syntax, notation, axiom, sorry.
-/
import Derived.Test.YtlinghjgnomflaaDoorRows
import GoSem.ClaimSeven
namespace Go.Proofs.YtlinghjgnomflaaDoor
namespace Rows

/-- THE TIED CARD OF 'tabularylaw12.PackPairs'. -/
def packPairsCard : Claim7 := { stood := { row := packPairsRow, standIns := [], harness := (true, "185a26e2006831518c3999acae079254446ec62b57c3f7eb80bc365b0854ff41"), looks := false }, kinds := [], alts := [], laidByText := true, laidKinds := [.data, .pinned], laidTests := true, laidLooks := .later }
def PackPairsCardSaid : Prop := Claim7.holds Tryd.pinned (.plain (OpenSpec.ofChange packPairsSpec)) packPairsCard

/-- THE TIED CARD OF 'tabularylaw12.PackBegins'. -/
def packBeginsCard : Claim7 := { stood := { row := packBeginsRow, standIns := [], harness := (true, "185a26e2006831518c3999acae079254446ec62b57c3f7eb80bc365b0854ff41"), looks := false }, kinds := [], alts := [], laidByText := true, laidKinds := [.data, .data, .data, .data, .data, .pinned], laidTests := true, laidLooks := .later }
def PackBeginsCardSaid : Prop := Claim7.holds Tryd.pinned (.plain (OpenSpec.ofChange packBeginsSpec)) packBeginsCard

/-- THE TIED CARD OF 'tabularylaw12.PackKnown'. -/
def packKnownCard : Claim7 := { stood := { row := packKnownRow, standIns := [], harness := (true, "185a26e2006831518c3999acae079254446ec62b57c3f7eb80bc365b0854ff41"), looks := false }, kinds := [], alts := [], laidByText := true, laidKinds := [.data, .data, .data, .data, .data, .pinned], laidTests := true, laidLooks := .later }
def PackKnownCardSaid : Prop := Claim7.holds Tryd.pinned (.plain (OpenSpec.ofChange packKnownSpec)) packKnownCard

/-- THE SECOND FORM's CARD OF 'tabularylaw12.PackPairs'. -/
def packPairsUptoCard : Claim7 := { stood := { row := packPairsUptoRow, standIns := [], harness := (true, "185a26e2006831518c3999acae079254446ec62b57c3f7eb80bc365b0854ff41"), looks := false }, kinds := [], alts := [], laidByText := true, laidKinds := [.data, .pinned], laidTests := true, laidLooks := .later }
def PackPairsUptoCardSaid : Prop := Claim7.holds Tryd.pinned (.plain (OpenSpec.upto packPairsSpec)) packPairsUptoCard

/-- THE SECOND FORM's CARD OF 'tabularylaw12.PackBegins'. -/
def packBeginsUptoCard : Claim7 := { stood := { row := packBeginsUptoRow, standIns := [], harness := (true, "185a26e2006831518c3999acae079254446ec62b57c3f7eb80bc365b0854ff41"), looks := false }, kinds := [], alts := [], laidByText := true, laidKinds := [.data, .data, .data, .data, .data, .pinned], laidTests := true, laidLooks := .later }
def PackBeginsUptoCardSaid : Prop := Claim7.holds Tryd.pinned (.plain (OpenSpec.upto packBeginsSpec)) packBeginsUptoCard

/-- THE SECOND FORM's CARD OF 'tabularylaw12.PackKnown'. -/
def packKnownUptoCard : Claim7 := { stood := { row := packKnownUptoRow, standIns := [], harness := (true, "185a26e2006831518c3999acae079254446ec62b57c3f7eb80bc365b0854ff41"), looks := false }, kinds := [], alts := [], laidByText := true, laidKinds := [.data, .data, .data, .data, .data, .pinned], laidTests := true, laidLooks := .later }
def PackKnownUptoCardSaid : Prop := Claim7.holds Tryd.pinned (.plain (OpenSpec.upto packKnownSpec)) packKnownUptoCard
end Rows
end Go.Proofs.YtlinghjgnomflaaDoor
