/-
  DERIVED. GIVEN WITH THE SEED: THE CARDS: each row of YtpdkcpbhihaakaaDoorRows.lean that lists a variable, with what it lists TIED to the program's text (the seventh form; the later family's looks); each row that meets fmt, with fmt's text TOLD by the authors' own Lean function (tested against real Go, not proved from fmt's source: count such statements apart). THE CARD IS WHAT COUNTS. Prove the row's statement (the work); the ties are given (YtpdkcpbhihaakaaDoorTie.lean); close each card by the builder's one call (the guide's Derived/Test/ToyasCard.lean, 'card_holds'). Laid BY PROGRAM, IN A SANDBOX (cutbox-door.mjs). By AI agents, Wed Nov 11 2026. No macro, syntax, notation, axiom, sorry.
-/
import Derived.Test.YtpdkcpbhihaakaaDoorRows
import GoSem.ClaimSeven
namespace Go.Proofs.YtpdkcpbhihaakaaDoor
namespace Rows

/-- THE TIED CARD OF 'windlasslaw16.PartPlain'. -/
def partPlainCard : Claim7 := { stood := { row := partPlainRow, standIns := [], harness := (true, "33dc9cca620a826a7f1ebef8e9b95500c6e467c34e09282f973cd12ac2c1d004"), looks := true }, kinds := [], alts := [], laidByText := true, laidKinds := [.listed, .data], laidTests := true, laidLooks := .later }
def PartPlainCardSaid : Prop := Claim7.holds Tryd.pinned (.plain (OpenSpec.ofChange partPlainSpec)) partPlainCard

/-- THE TIED CARD OF 'windlasslaw23.EchoWrites'. -/
def echoWritesCard : Claim7 := { stood := { row := echoWritesRow, standIns := [], harness := (true, "33dc9cca620a826a7f1ebef8e9b95500c6e467c34e09282f973cd12ac2c1d004"), looks := true }, kinds := [], alts := [], laidByText := true, laidKinds := [.data, .pinned, .pinned], laidTests := true, laidLooks := .later }
def EchoWritesCardSaid : Prop := Claim7.holds Tryd.pinned (.plain (OpenSpec.ofChange echoWritesSpec)) echoWritesCard

/-- THE TIED CARD OF 'windlasslaw15.TokenPlaces'. -/
def tokenPlacesCard : Claim7 := { stood := { row := tokenPlacesRow, standIns := [], harness := (true, "33dc9cca620a826a7f1ebef8e9b95500c6e467c34e09282f973cd12ac2c1d004"), looks := true }, kinds := [], alts := [], laidByText := true, laidKinds := [.data, .listed, .data, .pinned], laidTests := true, laidLooks := .later }
def TokenPlacesCardSaid : Prop := Claim7.holds Tryd.pinned (.plain (OpenSpec.ofChange tokenPlacesSpec)) tokenPlacesCard

/-- THE TIED CARD OF 'windlasslaw15.TokenQuotes'. -/
def tokenQuotesCard : Claim7 := { stood := { row := tokenQuotesRow, standIns := [], harness := (true, "33dc9cca620a826a7f1ebef8e9b95500c6e467c34e09282f973cd12ac2c1d004"), looks := true }, kinds := [], alts := [], laidByText := true, laidKinds := [.data, .listed, .data, .pinned], laidTests := true, laidLooks := .later }
def TokenQuotesCardSaid : Prop := Claim7.holds Tryd.pinned (.plain (OpenSpec.ofChange tokenQuotesSpec)) tokenQuotesCard

/-- THE TIED CARD OF 'windlasslaw15.TokenTwo'. -/
def tokenTwoCard : Claim7 := { stood := { row := tokenTwoRow, standIns := [], harness := (true, "33dc9cca620a826a7f1ebef8e9b95500c6e467c34e09282f973cd12ac2c1d004"), looks := true }, kinds := [], alts := [], laidByText := true, laidKinds := [.data, .listed, .data, .pinned], laidTests := true, laidLooks := .later }
def TokenTwoCardSaid : Prop := Claim7.holds Tryd.pinned (.plain (OpenSpec.ofChange tokenTwoSpec)) tokenTwoCard

/-- THE SECOND FORM's CARD OF 'windlasslaw16.PartPlain'. -/
def partPlainUptoCard : Claim7 := { stood := { row := partPlainUptoRow, standIns := [], harness := (true, "33dc9cca620a826a7f1ebef8e9b95500c6e467c34e09282f973cd12ac2c1d004"), looks := true }, kinds := [], alts := [], laidByText := true, laidKinds := [.listed, .data], laidTests := true, laidLooks := .later }
def PartPlainUptoCardSaid : Prop := Claim7.holds Tryd.pinned (.plain (OpenSpec.upto partPlainSpec)) partPlainUptoCard

/-- THE SECOND FORM's CARD OF 'windlasslaw23.EchoWrites'. -/
def echoWritesUptoCard : Claim7 := { stood := { row := echoWritesUptoRow, standIns := [], harness := (true, "33dc9cca620a826a7f1ebef8e9b95500c6e467c34e09282f973cd12ac2c1d004"), looks := true }, kinds := [], alts := [], laidByText := true, laidKinds := [.data, .pinned, .pinned], laidTests := true, laidLooks := .later }
def EchoWritesUptoCardSaid : Prop := Claim7.holds Tryd.pinned (.plain (OpenSpec.upto echoWritesSpec)) echoWritesUptoCard

/-- THE SECOND FORM's CARD OF 'windlasslaw15.TokenPlaces'. -/
def tokenPlacesUptoCard : Claim7 := { stood := { row := tokenPlacesUptoRow, standIns := [], harness := (true, "33dc9cca620a826a7f1ebef8e9b95500c6e467c34e09282f973cd12ac2c1d004"), looks := true }, kinds := [], alts := [], laidByText := true, laidKinds := [.data, .listed, .data, .pinned], laidTests := true, laidLooks := .later }
def TokenPlacesUptoCardSaid : Prop := Claim7.holds Tryd.pinned (.plain (OpenSpec.upto tokenPlacesSpec)) tokenPlacesUptoCard

/-- THE SECOND FORM's CARD OF 'windlasslaw15.TokenQuotes'. -/
def tokenQuotesUptoCard : Claim7 := { stood := { row := tokenQuotesUptoRow, standIns := [], harness := (true, "33dc9cca620a826a7f1ebef8e9b95500c6e467c34e09282f973cd12ac2c1d004"), looks := true }, kinds := [], alts := [], laidByText := true, laidKinds := [.data, .listed, .data, .pinned], laidTests := true, laidLooks := .later }
def TokenQuotesUptoCardSaid : Prop := Claim7.holds Tryd.pinned (.plain (OpenSpec.upto tokenQuotesSpec)) tokenQuotesUptoCard

/-- THE SECOND FORM's CARD OF 'windlasslaw15.TokenTwo'. -/
def tokenTwoUptoCard : Claim7 := { stood := { row := tokenTwoUptoRow, standIns := [], harness := (true, "33dc9cca620a826a7f1ebef8e9b95500c6e467c34e09282f973cd12ac2c1d004"), looks := true }, kinds := [], alts := [], laidByText := true, laidKinds := [.data, .listed, .data, .pinned], laidTests := true, laidLooks := .later }
def TokenTwoUptoCardSaid : Prop := Claim7.holds Tryd.pinned (.plain (OpenSpec.upto tokenTwoSpec)) tokenTwoUptoCard
end Rows
end Go.Proofs.YtpdkcpbhihaakaaDoor
