/-
  DERIVED. GIVEN WITH THE SEED: THE CARDS: each row of YticjjabioiilfaaGreatDoorRows.lean that lists a variable, with what it lists TIED to the program's text (the seventh form; the later family's looks); each row that meets fmt, with fmt's text TOLD by the authors' own Lean function (tested against real Go, not proved from fmt's source: count such statements apart). THE CARD IS WHAT COUNTS. Prove the row's statement (the work); the ties are given (YticjjabioiilfaaGreatDoorTie.lean); close each card by the builder's one call (the guide's Derived/Test/ToyasCard.lean, 'card_holds'). Laid BY PROGRAM, IN A SANDBOX (cutbox-door.mjs). By AI agents, Wed Nov 11 2026. No macro, syntax, notation, axiom, sorry.
-/
import Derived.Test.YticjjabioiilfaaGreatDoorRows
import GoSem.ClaimSeven
namespace Go.Proofs.YticjjabioiilfaaGreatDoor
namespace Rows

/-- THE TIED CARD OF 'wishbooklaw02.LetterParted'. -/
def letterPartedCard : Claim7 := { stood := { row := letterPartedRow, standIns := [], harness := (true, "3b7b54f3166715faadb0507053d32a6bc4aaf32b579f022f5c7a6b04a0c4adab"), looks := false }, kinds := [], alts := [], laidByText := true, laidKinds := [.funcs, .funcs], laidTests := true, laidLooks := .later }
def LetterPartedCardSaid : Prop := Claim7.holds Tryz.pinned (.plain (OpenSpec.ofChange letterPartedSpec)) letterPartedCard

/-- THE TIED CARD OF 'wishbooklaw02.LetterKnown'. -/
def letterKnownCard : Claim7 := { stood := { row := letterKnownRow, standIns := [], harness := (true, "3b7b54f3166715faadb0507053d32a6bc4aaf32b579f022f5c7a6b04a0c4adab"), looks := false }, kinds := [], alts := [], laidByText := true, laidKinds := [.funcs, .funcs], laidTests := true, laidLooks := .later }
def LetterKnownCardSaid : Prop := Claim7.holds Tryz.pinned (.plain (OpenSpec.ofChange letterKnownSpec)) letterKnownCard

/-- THE TIED CARD OF 'wishbooklaw02.LetterOrders'. -/
def letterOrdersCard : Claim7 := { stood := { row := letterOrdersRow, standIns := [], harness := (true, "3b7b54f3166715faadb0507053d32a6bc4aaf32b579f022f5c7a6b04a0c4adab"), looks := false }, kinds := [], alts := [], laidByText := true, laidKinds := [.funcs, .funcs], laidTests := true, laidLooks := .later }
def LetterOrdersCardSaid : Prop := Claim7.holds Tryz.pinned (.plain (OpenSpec.ofChange letterOrdersSpec)) letterOrdersCard

/-- THE TIED CARD OF 'wishbooklaw02.LetterSures'. -/
def letterSuresCard : Claim7 := { stood := { row := letterSuresRow, standIns := [], harness := (true, "3b7b54f3166715faadb0507053d32a6bc4aaf32b579f022f5c7a6b04a0c4adab"), looks := false }, kinds := [], alts := [], laidByText := true, laidKinds := [.funcs, .funcs], laidTests := true, laidLooks := .later }
def LetterSuresCardSaid : Prop := Claim7.holds Tryz.pinned (.plain (OpenSpec.ofChange letterSuresSpec)) letterSuresCard

/-- THE TIED CARD OF 'wishbooklaw02.LetterDays'. -/
def letterDaysCard : Claim7 := { stood := { row := letterDaysRow, standIns := [], harness := (true, "3b7b54f3166715faadb0507053d32a6bc4aaf32b579f022f5c7a6b04a0c4adab"), looks := false }, kinds := [], alts := [], laidByText := true, laidKinds := [.funcs, .funcs], laidTests := true, laidLooks := .later }
def LetterDaysCardSaid : Prop := Claim7.holds Tryz.pinned (.plain (OpenSpec.ofChange letterDaysSpec)) letterDaysCard

/-- THE TIED CARD OF 'wishbooklaw02.LetterTrue'. -/
def letterTrueCard : Claim7 := { stood := { row := letterTrueRow, standIns := [], harness := (true, "3b7b54f3166715faadb0507053d32a6bc4aaf32b579f022f5c7a6b04a0c4adab"), looks := false }, kinds := [], alts := [], laidByText := true, laidKinds := [.funcs, .funcs], laidTests := true, laidLooks := .later }
def LetterTrueCardSaid : Prop := Claim7.holds Tryz.pinned (.plain (OpenSpec.ofChange letterTrueSpec)) letterTrueCard

/-- THE TIED CARD OF 'wishbooklaw02.LetterSound'. -/
def letterSoundCard : Claim7 := { stood := { row := letterSoundRow, standIns := [], harness := (true, "3b7b54f3166715faadb0507053d32a6bc4aaf32b579f022f5c7a6b04a0c4adab"), looks := false }, kinds := [], alts := [], laidByText := true, laidKinds := [.funcs, .funcs], laidTests := true, laidLooks := .later }
def LetterSoundCardSaid : Prop := Claim7.holds Tryz.pinned (.plain (OpenSpec.ofChange letterSoundSpec)) letterSoundCard

/-- THE TIED CARD OF 'wishbooklaw02.LetterMore'. -/
def letterMoreCard : Claim7 := { stood := { row := letterMoreRow, standIns := [], harness := (true, "3b7b54f3166715faadb0507053d32a6bc4aaf32b579f022f5c7a6b04a0c4adab"), looks := false }, kinds := [], alts := [], laidByText := true, laidKinds := [.funcs, .funcs], laidTests := true, laidLooks := .later }
def LetterMoreCardSaid : Prop := Claim7.holds Tryz.pinned (.plain (OpenSpec.ofChange letterMoreSpec)) letterMoreCard

/-- THE TIED CARD OF 'wishbooklaw02.LetterAsks'. -/
def letterAsksCard : Claim7 := { stood := { row := letterAsksRow, standIns := [], harness := (true, "3b7b54f3166715faadb0507053d32a6bc4aaf32b579f022f5c7a6b04a0c4adab"), looks := false }, kinds := [], alts := [], laidByText := true, laidKinds := [.funcs, .funcs], laidTests := true, laidLooks := .later }
def LetterAsksCardSaid : Prop := Claim7.holds Tryz.pinned (.plain (OpenSpec.ofChange letterAsksSpec)) letterAsksCard

/-- THE TIED CARD OF 'wishbooklaw02.LetterSure'. -/
def letterSureCard : Claim7 := { stood := { row := letterSureRow, standIns := [], harness := (true, "3b7b54f3166715faadb0507053d32a6bc4aaf32b579f022f5c7a6b04a0c4adab"), looks := false }, kinds := [], alts := [], laidByText := true, laidKinds := [.funcs, .funcs], laidTests := true, laidLooks := .later }
def LetterSureCardSaid : Prop := Claim7.holds Tryz.pinned (.plain (OpenSpec.ofChange letterSureSpec)) letterSureCard

/-- THE SECOND FORM's CARD OF 'wishbooklaw02.LetterParted'. -/
def letterPartedUptoCard : Claim7 := { stood := { row := letterPartedUptoRow, standIns := [], harness := (true, "3b7b54f3166715faadb0507053d32a6bc4aaf32b579f022f5c7a6b04a0c4adab"), looks := false }, kinds := [], alts := [], laidByText := true, laidKinds := [.funcs, .funcs], laidTests := true, laidLooks := .later }
def LetterPartedUptoCardSaid : Prop := Claim7.holds Tryz.pinned (.plain (OpenSpec.upto letterPartedSpec)) letterPartedUptoCard

/-- THE SECOND FORM's CARD OF 'wishbooklaw02.LetterKnown'. -/
def letterKnownUptoCard : Claim7 := { stood := { row := letterKnownUptoRow, standIns := [], harness := (true, "3b7b54f3166715faadb0507053d32a6bc4aaf32b579f022f5c7a6b04a0c4adab"), looks := false }, kinds := [], alts := [], laidByText := true, laidKinds := [.funcs, .funcs], laidTests := true, laidLooks := .later }
def LetterKnownUptoCardSaid : Prop := Claim7.holds Tryz.pinned (.plain (OpenSpec.upto letterKnownSpec)) letterKnownUptoCard

/-- THE SECOND FORM's CARD OF 'wishbooklaw02.LetterOrders'. -/
def letterOrdersUptoCard : Claim7 := { stood := { row := letterOrdersUptoRow, standIns := [], harness := (true, "3b7b54f3166715faadb0507053d32a6bc4aaf32b579f022f5c7a6b04a0c4adab"), looks := false }, kinds := [], alts := [], laidByText := true, laidKinds := [.funcs, .funcs], laidTests := true, laidLooks := .later }
def LetterOrdersUptoCardSaid : Prop := Claim7.holds Tryz.pinned (.plain (OpenSpec.upto letterOrdersSpec)) letterOrdersUptoCard

/-- THE SECOND FORM's CARD OF 'wishbooklaw02.LetterSures'. -/
def letterSuresUptoCard : Claim7 := { stood := { row := letterSuresUptoRow, standIns := [], harness := (true, "3b7b54f3166715faadb0507053d32a6bc4aaf32b579f022f5c7a6b04a0c4adab"), looks := false }, kinds := [], alts := [], laidByText := true, laidKinds := [.funcs, .funcs], laidTests := true, laidLooks := .later }
def LetterSuresUptoCardSaid : Prop := Claim7.holds Tryz.pinned (.plain (OpenSpec.upto letterSuresSpec)) letterSuresUptoCard

/-- THE SECOND FORM's CARD OF 'wishbooklaw02.LetterDays'. -/
def letterDaysUptoCard : Claim7 := { stood := { row := letterDaysUptoRow, standIns := [], harness := (true, "3b7b54f3166715faadb0507053d32a6bc4aaf32b579f022f5c7a6b04a0c4adab"), looks := false }, kinds := [], alts := [], laidByText := true, laidKinds := [.funcs, .funcs], laidTests := true, laidLooks := .later }
def LetterDaysUptoCardSaid : Prop := Claim7.holds Tryz.pinned (.plain (OpenSpec.upto letterDaysSpec)) letterDaysUptoCard

/-- THE SECOND FORM's CARD OF 'wishbooklaw02.LetterTrue'. -/
def letterTrueUptoCard : Claim7 := { stood := { row := letterTrueUptoRow, standIns := [], harness := (true, "3b7b54f3166715faadb0507053d32a6bc4aaf32b579f022f5c7a6b04a0c4adab"), looks := false }, kinds := [], alts := [], laidByText := true, laidKinds := [.funcs, .funcs], laidTests := true, laidLooks := .later }
def LetterTrueUptoCardSaid : Prop := Claim7.holds Tryz.pinned (.plain (OpenSpec.upto letterTrueSpec)) letterTrueUptoCard

/-- THE SECOND FORM's CARD OF 'wishbooklaw02.LetterSound'. -/
def letterSoundUptoCard : Claim7 := { stood := { row := letterSoundUptoRow, standIns := [], harness := (true, "3b7b54f3166715faadb0507053d32a6bc4aaf32b579f022f5c7a6b04a0c4adab"), looks := false }, kinds := [], alts := [], laidByText := true, laidKinds := [.funcs, .funcs], laidTests := true, laidLooks := .later }
def LetterSoundUptoCardSaid : Prop := Claim7.holds Tryz.pinned (.plain (OpenSpec.upto letterSoundSpec)) letterSoundUptoCard

/-- THE SECOND FORM's CARD OF 'wishbooklaw02.LetterMore'. -/
def letterMoreUptoCard : Claim7 := { stood := { row := letterMoreUptoRow, standIns := [], harness := (true, "3b7b54f3166715faadb0507053d32a6bc4aaf32b579f022f5c7a6b04a0c4adab"), looks := false }, kinds := [], alts := [], laidByText := true, laidKinds := [.funcs, .funcs], laidTests := true, laidLooks := .later }
def LetterMoreUptoCardSaid : Prop := Claim7.holds Tryz.pinned (.plain (OpenSpec.upto letterMoreSpec)) letterMoreUptoCard

/-- THE SECOND FORM's CARD OF 'wishbooklaw02.LetterAsks'. -/
def letterAsksUptoCard : Claim7 := { stood := { row := letterAsksUptoRow, standIns := [], harness := (true, "3b7b54f3166715faadb0507053d32a6bc4aaf32b579f022f5c7a6b04a0c4adab"), looks := false }, kinds := [], alts := [], laidByText := true, laidKinds := [.funcs, .funcs], laidTests := true, laidLooks := .later }
def LetterAsksUptoCardSaid : Prop := Claim7.holds Tryz.pinned (.plain (OpenSpec.upto letterAsksSpec)) letterAsksUptoCard

/-- THE SECOND FORM's CARD OF 'wishbooklaw02.LetterSure'. -/
def letterSureUptoCard : Claim7 := { stood := { row := letterSureUptoRow, standIns := [], harness := (true, "3b7b54f3166715faadb0507053d32a6bc4aaf32b579f022f5c7a6b04a0c4adab"), looks := false }, kinds := [], alts := [], laidByText := true, laidKinds := [.funcs, .funcs], laidTests := true, laidLooks := .later }
def LetterSureUptoCardSaid : Prop := Claim7.holds Tryz.pinned (.plain (OpenSpec.upto letterSureSpec)) letterSureUptoCard
end Rows
end Go.Proofs.YticjjabioiilfaaGreatDoor
