/-
  DERIVED. GIVEN WITH THE SEED: THE CARDS: each row of YtaihkflmkopliaaDoorRows.lean that lists a variable, with what it lists TIED to the program's text (the seventh form; the later family's looks); each row that meets fmt, with fmt's text TOLD by the authors' own Lean function (tested against real Go, not proved from fmt's source: count such statements apart). THE CARD IS WHAT COUNTS. Prove the row's statement (the work); the ties are given (YtaihkflmkopliaaDoorTie.lean); close each card by the builder's one call (the guide's Derived/Test/ToyasCard.lean, 'card_holds'). Laid BY PROGRAM, IN A SANDBOX (cutbox-door.mjs). By AI agents, Wed Nov 11 2026. No macro, syntax, notation, axiom, sorry.
-/
import Derived.Test.YtaihkflmkopliaaDoorRows
import GoSem.ClaimSeven
namespace Go.Proofs.YtaihkflmkopliaaDoor
namespace Rows

/-- THE TIED CARD OF 'wishbooklaw01.BookNumbers'. -/
def bookNumbersCard : Claim7 := { stood := { row := bookNumbersRow, standIns := [], harness := (true, "de34d46ba93dfda05d9f7e3662a5460931c1dfb0ae190ffcfb89f1056ff16c45"), looks := false }, kinds := [], alts := [], laidByText := true, laidKinds := [.funcs], laidTests := true, laidLooks := .later }
def BookNumbersCardSaid : Prop := Claim7.holds Tryd.pinned (.plain (OpenSpec.ofChange bookNumbersSpec)) bookNumbersCard

/-- THE TIED CARD OF 'wishbooklaw01.BookPrices'. -/
def bookPricesCard : Claim7 := { stood := { row := bookPricesRow, standIns := [], harness := (true, "de34d46ba93dfda05d9f7e3662a5460931c1dfb0ae190ffcfb89f1056ff16c45"), looks := false }, kinds := [], alts := [], laidByText := true, laidKinds := [.funcs], laidTests := true, laidLooks := .later }
def BookPricesCardSaid : Prop := Claim7.holds Tryd.pinned (.plain (OpenSpec.ofChange bookPricesSpec)) bookPricesCard

/-- THE TIED CARD OF 'wishbooklaw01.BookSums'. -/
def bookSumsCard : Claim7 := { stood := { row := bookSumsRow, standIns := [], harness := (true, "de34d46ba93dfda05d9f7e3662a5460931c1dfb0ae190ffcfb89f1056ff16c45"), looks := false }, kinds := [], alts := [], laidByText := true, laidKinds := [.funcs], laidTests := true, laidLooks := .later }
def BookSumsCardSaid : Prop := Claim7.holds Tryd.pinned (.plain (OpenSpec.ofChange bookSumsSpec)) bookSumsCard

/-- THE TIED CARD OF 'wishbooklaw01.BookFits'. -/
def bookFitsCard : Claim7 := { stood := { row := bookFitsRow, standIns := [], harness := (true, "de34d46ba93dfda05d9f7e3662a5460931c1dfb0ae190ffcfb89f1056ff16c45"), looks := false }, kinds := [], alts := [], laidByText := true, laidKinds := [.funcs], laidTests := true, laidLooks := .later }
def BookFitsCardSaid : Prop := Claim7.holds Tryd.pinned (.plain (OpenSpec.ofChange bookFitsSpec)) bookFitsCard

/-- THE TIED CARD OF 'wishbooklaw01.BookMeant'. -/
def bookMeantCard : Claim7 := { stood := { row := bookMeantRow, standIns := [], harness := (true, "de34d46ba93dfda05d9f7e3662a5460931c1dfb0ae190ffcfb89f1056ff16c45"), looks := false }, kinds := [], alts := [], laidByText := true, laidKinds := [.funcs], laidTests := true, laidLooks := .later }
def BookMeantCardSaid : Prop := Claim7.holds Tryd.pinned (.plain (OpenSpec.ofChange bookMeantSpec)) bookMeantCard

/-- THE TIED CARD OF 'wishbooklaw01.BookBack'. -/
def bookBackCard : Claim7 := { stood := { row := bookBackRow, standIns := [], harness := (true, "de34d46ba93dfda05d9f7e3662a5460931c1dfb0ae190ffcfb89f1056ff16c45"), looks := false }, kinds := [], alts := [], laidByText := true, laidKinds := [.funcs], laidTests := true, laidLooks := .later }
def BookBackCardSaid : Prop := Claim7.holds Tryd.pinned (.plain (OpenSpec.ofChange bookBackSpec)) bookBackCard

/-- THE TIED CARD OF 'wishbooklaw01.BookTwins'. -/
def bookTwinsCard : Claim7 := { stood := { row := bookTwinsRow, standIns := [], harness := (true, "de34d46ba93dfda05d9f7e3662a5460931c1dfb0ae190ffcfb89f1056ff16c45"), looks := false }, kinds := [], alts := [], laidByText := true, laidKinds := [.funcs], laidTests := true, laidLooks := .later }
def BookTwinsCardSaid : Prop := Claim7.holds Tryd.pinned (.plain (OpenSpec.ofChange bookTwinsSpec)) bookTwinsCard

/-- THE TIED CARD OF 'wishbooklaw01.BookKept'. -/
def bookKeptCard : Claim7 := { stood := { row := bookKeptRow, standIns := [], harness := (true, "de34d46ba93dfda05d9f7e3662a5460931c1dfb0ae190ffcfb89f1056ff16c45"), looks := false }, kinds := [], alts := [], laidByText := true, laidKinds := [.funcs], laidTests := true, laidLooks := .later }
def BookKeptCardSaid : Prop := Claim7.holds Tryd.pinned (.plain (OpenSpec.ofChange bookKeptSpec)) bookKeptCard

/-- THE TIED CARD OF 'wishbooklaw01.BookMore'. -/
def bookMoreCard : Claim7 := { stood := { row := bookMoreRow, standIns := [], harness := (true, "de34d46ba93dfda05d9f7e3662a5460931c1dfb0ae190ffcfb89f1056ff16c45"), looks := false }, kinds := [], alts := [], laidByText := true, laidKinds := [.funcs], laidTests := true, laidLooks := .later }
def BookMoreCardSaid : Prop := Claim7.holds Tryd.pinned (.plain (OpenSpec.ofChange bookMoreSpec)) bookMoreCard

/-- THE TIED CARD OF 'wishbooklaw01.BookDays'. -/
def bookDaysCard : Claim7 := { stood := { row := bookDaysRow, standIns := [], harness := (true, "de34d46ba93dfda05d9f7e3662a5460931c1dfb0ae190ffcfb89f1056ff16c45"), looks := false }, kinds := [], alts := [], laidByText := true, laidKinds := [.funcs], laidTests := true, laidLooks := .later }
def BookDaysCardSaid : Prop := Claim7.holds Tryd.pinned (.plain (OpenSpec.ofChange bookDaysSpec)) bookDaysCard

/-- THE TIED CARD OF 'wishbooklaw01.BookAdded'. -/
def bookAddedCard : Claim7 := { stood := { row := bookAddedRow, standIns := [], harness := (true, "de34d46ba93dfda05d9f7e3662a5460931c1dfb0ae190ffcfb89f1056ff16c45"), looks := false }, kinds := [], alts := [], laidByText := true, laidKinds := [.funcs], laidTests := true, laidLooks := .later }
def BookAddedCardSaid : Prop := Claim7.holds Tryd.pinned (.plain (OpenSpec.ofChange bookAddedSpec)) bookAddedCard

/-- THE TIED CARD OF 'wishbooklaw01.BookCheapest'. -/
def bookCheapestCard : Claim7 := { stood := { row := bookCheapestRow, standIns := [], harness := (true, "de34d46ba93dfda05d9f7e3662a5460931c1dfb0ae190ffcfb89f1056ff16c45"), looks := false }, kinds := [], alts := [], laidByText := true, laidKinds := [.funcs], laidTests := true, laidLooks := .later }
def BookCheapestCardSaid : Prop := Claim7.holds Tryd.pinned (.plain (OpenSpec.ofChange bookCheapestSpec)) bookCheapestCard

/-- THE TIED CARD OF 'wishbooklaw01.BookFoot'. -/
def bookFootCard : Claim7 := { stood := { row := bookFootRow, standIns := [], harness := (true, "de34d46ba93dfda05d9f7e3662a5460931c1dfb0ae190ffcfb89f1056ff16c45"), looks := false }, kinds := [], alts := [], laidByText := true, laidKinds := [.funcs], laidTests := true, laidLooks := .later }
def BookFootCardSaid : Prop := Claim7.holds Tryd.pinned (.plain (OpenSpec.ofChange bookFootSpec)) bookFootCard

/-- THE TIED CARD OF 'wishbooklaw01.BookKnown'. -/
def bookKnownCard : Claim7 := { stood := { row := bookKnownRow, standIns := [], harness := (true, "de34d46ba93dfda05d9f7e3662a5460931c1dfb0ae190ffcfb89f1056ff16c45"), looks := false }, kinds := [], alts := [], laidByText := true, laidKinds := [.funcs], laidTests := true, laidLooks := .later }
def BookKnownCardSaid : Prop := Claim7.holds Tryd.pinned (.plain (OpenSpec.ofChange bookKnownSpec)) bookKnownCard

/-- THE SECOND FORM's CARD OF 'wishbooklaw01.BookNumbers'. -/
def bookNumbersUptoCard : Claim7 := { stood := { row := bookNumbersUptoRow, standIns := [], harness := (true, "de34d46ba93dfda05d9f7e3662a5460931c1dfb0ae190ffcfb89f1056ff16c45"), looks := false }, kinds := [], alts := [], laidByText := true, laidKinds := [.funcs], laidTests := true, laidLooks := .later }
def BookNumbersUptoCardSaid : Prop := Claim7.holds Tryd.pinned (.plain (OpenSpec.upto bookNumbersSpec)) bookNumbersUptoCard

/-- THE SECOND FORM's CARD OF 'wishbooklaw01.BookPrices'. -/
def bookPricesUptoCard : Claim7 := { stood := { row := bookPricesUptoRow, standIns := [], harness := (true, "de34d46ba93dfda05d9f7e3662a5460931c1dfb0ae190ffcfb89f1056ff16c45"), looks := false }, kinds := [], alts := [], laidByText := true, laidKinds := [.funcs], laidTests := true, laidLooks := .later }
def BookPricesUptoCardSaid : Prop := Claim7.holds Tryd.pinned (.plain (OpenSpec.upto bookPricesSpec)) bookPricesUptoCard

/-- THE SECOND FORM's CARD OF 'wishbooklaw01.BookSums'. -/
def bookSumsUptoCard : Claim7 := { stood := { row := bookSumsUptoRow, standIns := [], harness := (true, "de34d46ba93dfda05d9f7e3662a5460931c1dfb0ae190ffcfb89f1056ff16c45"), looks := false }, kinds := [], alts := [], laidByText := true, laidKinds := [.funcs], laidTests := true, laidLooks := .later }
def BookSumsUptoCardSaid : Prop := Claim7.holds Tryd.pinned (.plain (OpenSpec.upto bookSumsSpec)) bookSumsUptoCard

/-- THE SECOND FORM's CARD OF 'wishbooklaw01.BookFits'. -/
def bookFitsUptoCard : Claim7 := { stood := { row := bookFitsUptoRow, standIns := [], harness := (true, "de34d46ba93dfda05d9f7e3662a5460931c1dfb0ae190ffcfb89f1056ff16c45"), looks := false }, kinds := [], alts := [], laidByText := true, laidKinds := [.funcs], laidTests := true, laidLooks := .later }
def BookFitsUptoCardSaid : Prop := Claim7.holds Tryd.pinned (.plain (OpenSpec.upto bookFitsSpec)) bookFitsUptoCard

/-- THE SECOND FORM's CARD OF 'wishbooklaw01.BookMeant'. -/
def bookMeantUptoCard : Claim7 := { stood := { row := bookMeantUptoRow, standIns := [], harness := (true, "de34d46ba93dfda05d9f7e3662a5460931c1dfb0ae190ffcfb89f1056ff16c45"), looks := false }, kinds := [], alts := [], laidByText := true, laidKinds := [.funcs], laidTests := true, laidLooks := .later }
def BookMeantUptoCardSaid : Prop := Claim7.holds Tryd.pinned (.plain (OpenSpec.upto bookMeantSpec)) bookMeantUptoCard

/-- THE SECOND FORM's CARD OF 'wishbooklaw01.BookBack'. -/
def bookBackUptoCard : Claim7 := { stood := { row := bookBackUptoRow, standIns := [], harness := (true, "de34d46ba93dfda05d9f7e3662a5460931c1dfb0ae190ffcfb89f1056ff16c45"), looks := false }, kinds := [], alts := [], laidByText := true, laidKinds := [.funcs], laidTests := true, laidLooks := .later }
def BookBackUptoCardSaid : Prop := Claim7.holds Tryd.pinned (.plain (OpenSpec.upto bookBackSpec)) bookBackUptoCard

/-- THE SECOND FORM's CARD OF 'wishbooklaw01.BookTwins'. -/
def bookTwinsUptoCard : Claim7 := { stood := { row := bookTwinsUptoRow, standIns := [], harness := (true, "de34d46ba93dfda05d9f7e3662a5460931c1dfb0ae190ffcfb89f1056ff16c45"), looks := false }, kinds := [], alts := [], laidByText := true, laidKinds := [.funcs], laidTests := true, laidLooks := .later }
def BookTwinsUptoCardSaid : Prop := Claim7.holds Tryd.pinned (.plain (OpenSpec.upto bookTwinsSpec)) bookTwinsUptoCard

/-- THE SECOND FORM's CARD OF 'wishbooklaw01.BookKept'. -/
def bookKeptUptoCard : Claim7 := { stood := { row := bookKeptUptoRow, standIns := [], harness := (true, "de34d46ba93dfda05d9f7e3662a5460931c1dfb0ae190ffcfb89f1056ff16c45"), looks := false }, kinds := [], alts := [], laidByText := true, laidKinds := [.funcs], laidTests := true, laidLooks := .later }
def BookKeptUptoCardSaid : Prop := Claim7.holds Tryd.pinned (.plain (OpenSpec.upto bookKeptSpec)) bookKeptUptoCard

/-- THE SECOND FORM's CARD OF 'wishbooklaw01.BookMore'. -/
def bookMoreUptoCard : Claim7 := { stood := { row := bookMoreUptoRow, standIns := [], harness := (true, "de34d46ba93dfda05d9f7e3662a5460931c1dfb0ae190ffcfb89f1056ff16c45"), looks := false }, kinds := [], alts := [], laidByText := true, laidKinds := [.funcs], laidTests := true, laidLooks := .later }
def BookMoreUptoCardSaid : Prop := Claim7.holds Tryd.pinned (.plain (OpenSpec.upto bookMoreSpec)) bookMoreUptoCard

/-- THE SECOND FORM's CARD OF 'wishbooklaw01.BookDays'. -/
def bookDaysUptoCard : Claim7 := { stood := { row := bookDaysUptoRow, standIns := [], harness := (true, "de34d46ba93dfda05d9f7e3662a5460931c1dfb0ae190ffcfb89f1056ff16c45"), looks := false }, kinds := [], alts := [], laidByText := true, laidKinds := [.funcs], laidTests := true, laidLooks := .later }
def BookDaysUptoCardSaid : Prop := Claim7.holds Tryd.pinned (.plain (OpenSpec.upto bookDaysSpec)) bookDaysUptoCard

/-- THE SECOND FORM's CARD OF 'wishbooklaw01.BookAdded'. -/
def bookAddedUptoCard : Claim7 := { stood := { row := bookAddedUptoRow, standIns := [], harness := (true, "de34d46ba93dfda05d9f7e3662a5460931c1dfb0ae190ffcfb89f1056ff16c45"), looks := false }, kinds := [], alts := [], laidByText := true, laidKinds := [.funcs], laidTests := true, laidLooks := .later }
def BookAddedUptoCardSaid : Prop := Claim7.holds Tryd.pinned (.plain (OpenSpec.upto bookAddedSpec)) bookAddedUptoCard

/-- THE SECOND FORM's CARD OF 'wishbooklaw01.BookCheapest'. -/
def bookCheapestUptoCard : Claim7 := { stood := { row := bookCheapestUptoRow, standIns := [], harness := (true, "de34d46ba93dfda05d9f7e3662a5460931c1dfb0ae190ffcfb89f1056ff16c45"), looks := false }, kinds := [], alts := [], laidByText := true, laidKinds := [.funcs], laidTests := true, laidLooks := .later }
def BookCheapestUptoCardSaid : Prop := Claim7.holds Tryd.pinned (.plain (OpenSpec.upto bookCheapestSpec)) bookCheapestUptoCard

/-- THE SECOND FORM's CARD OF 'wishbooklaw01.BookFoot'. -/
def bookFootUptoCard : Claim7 := { stood := { row := bookFootUptoRow, standIns := [], harness := (true, "de34d46ba93dfda05d9f7e3662a5460931c1dfb0ae190ffcfb89f1056ff16c45"), looks := false }, kinds := [], alts := [], laidByText := true, laidKinds := [.funcs], laidTests := true, laidLooks := .later }
def BookFootUptoCardSaid : Prop := Claim7.holds Tryd.pinned (.plain (OpenSpec.upto bookFootSpec)) bookFootUptoCard

/-- THE SECOND FORM's CARD OF 'wishbooklaw01.BookKnown'. -/
def bookKnownUptoCard : Claim7 := { stood := { row := bookKnownUptoRow, standIns := [], harness := (true, "de34d46ba93dfda05d9f7e3662a5460931c1dfb0ae190ffcfb89f1056ff16c45"), looks := false }, kinds := [], alts := [], laidByText := true, laidKinds := [.funcs], laidTests := true, laidLooks := .later }
def BookKnownUptoCardSaid : Prop := Claim7.holds Tryd.pinned (.plain (OpenSpec.upto bookKnownSpec)) bookKnownUptoCard
end Rows
end Go.Proofs.YtaihkflmkopliaaDoor
