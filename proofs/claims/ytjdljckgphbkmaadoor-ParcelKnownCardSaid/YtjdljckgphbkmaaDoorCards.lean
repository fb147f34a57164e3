/-
  DERIVED. GIVEN WITH THE SEED: THE CARDS: each row of YtjdljckgphbkmaaDoorRows.lean that lists a variable, with what it lists TIED to the program's text (the seventh form; the later family's looks); each row that meets fmt, with fmt's text TOLD by the authors' own Lean function (tested against real Go, not proved from fmt's source: count such statements apart). THE CARD IS WHAT COUNTS. Prove the row's statement (the work); the ties are given (YtjdljckgphbkmaaDoorTie.lean); close each card by the builder's one call (the guide's Derived/Test/ToyasCard.lean, 'card_holds'). Laid BY PROGRAM, IN A SANDBOX (cutbox-door.mjs). By AI agents, Wed Nov 11 2026. No macro, syntax, notation, axiom, sorry.
-/
import Derived.Test.YtjdljckgphbkmaaDoorRows
import GoSem.ClaimSeven
namespace Go.Proofs.YtjdljckgphbkmaaDoor
namespace Rows

/-- THE TIED CARD OF 'wishbooklaw06.ParcelPosts'. -/
def parcelPostsCard : Claim7 := { stood := { row := parcelPostsRow, standIns := [], harness := (true, "7e78bb7b744dc57f42afa601b79f48f11b5aa257151351a491f5a1526c7d8ada"), looks := false }, kinds := [], alts := [], laidByText := true, laidKinds := [.funcs], laidTests := true, laidLooks := .later }
def ParcelPostsCardSaid : Prop := Claim7.holds Tryd.pinned (.plain (OpenSpec.ofChange parcelPostsSpec)) parcelPostsCard

/-- THE TIED CARD OF 'wishbooklaw06.ParcelCheaps'. -/
def parcelCheapsCard : Claim7 := { stood := { row := parcelCheapsRow, standIns := [], harness := (true, "7e78bb7b744dc57f42afa601b79f48f11b5aa257151351a491f5a1526c7d8ada"), looks := false }, kinds := [], alts := [], laidByText := true, laidKinds := [.funcs], laidTests := true, laidLooks := .later }
def ParcelCheapsCardSaid : Prop := Claim7.holds Tryd.pinned (.plain (OpenSpec.ofChange parcelCheapsSpec)) parcelCheapsCard

/-- THE TIED CARD OF 'wishbooklaw06.ParcelStamps'. -/
def parcelStampsCard : Claim7 := { stood := { row := parcelStampsRow, standIns := [], harness := (true, "7e78bb7b744dc57f42afa601b79f48f11b5aa257151351a491f5a1526c7d8ada"), looks := false }, kinds := [], alts := [], laidByText := true, laidKinds := [.funcs], laidTests := true, laidLooks := .later }
def ParcelStampsCardSaid : Prop := Claim7.holds Tryd.pinned (.plain (OpenSpec.ofChange parcelStampsSpec)) parcelStampsCard

/-- THE TIED CARD OF 'wishbooklaw06.ParcelSends'. -/
def parcelSendsCard : Claim7 := { stood := { row := parcelSendsRow, standIns := [], harness := (true, "7e78bb7b744dc57f42afa601b79f48f11b5aa257151351a491f5a1526c7d8ada"), looks := false }, kinds := [], alts := [], laidByText := true, laidKinds := [.funcs], laidTests := true, laidLooks := .later }
def ParcelSendsCardSaid : Prop := Claim7.holds Tryd.pinned (.plain (OpenSpec.ofChange parcelSendsSpec)) parcelSendsCard

/-- THE TIED CARD OF 'wishbooklaw06.ParcelOnce'. -/
def parcelOnceCard : Claim7 := { stood := { row := parcelOnceRow, standIns := [], harness := (true, "7e78bb7b744dc57f42afa601b79f48f11b5aa257151351a491f5a1526c7d8ada"), looks := false }, kinds := [], alts := [], laidByText := true, laidKinds := [.funcs], laidTests := true, laidLooks := .later }
def ParcelOnceCardSaid : Prop := Claim7.holds Tryd.pinned (.plain (OpenSpec.ofChange parcelOnceSpec)) parcelOnceCard

/-- THE TIED CARD OF 'wishbooklaw06.ParcelBig'. -/
def parcelBigCard : Claim7 := { stood := { row := parcelBigRow, standIns := [], harness := (true, "7e78bb7b744dc57f42afa601b79f48f11b5aa257151351a491f5a1526c7d8ada"), looks := false }, kinds := [], alts := [], laidByText := true, laidKinds := [.funcs], laidTests := true, laidLooks := .later }
def ParcelBigCardSaid : Prop := Claim7.holds Tryd.pinned (.plain (OpenSpec.ofChange parcelBigSpec)) parcelBigCard

/-- THE TIED CARD OF 'wishbooklaw06.ParcelMore'. -/
def parcelMoreCard : Claim7 := { stood := { row := parcelMoreRow, standIns := [], harness := (true, "7e78bb7b744dc57f42afa601b79f48f11b5aa257151351a491f5a1526c7d8ada"), looks := false }, kinds := [], alts := [], laidByText := true, laidKinds := [.funcs], laidTests := true, laidLooks := .later }
def ParcelMoreCardSaid : Prop := Claim7.holds Tryd.pinned (.plain (OpenSpec.ofChange parcelMoreSpec)) parcelMoreCard

/-- THE TIED CARD OF 'wishbooklaw06.ParcelEasier'. -/
def parcelEasierCard : Claim7 := { stood := { row := parcelEasierRow, standIns := [], harness := (true, "7e78bb7b744dc57f42afa601b79f48f11b5aa257151351a491f5a1526c7d8ada"), looks := false }, kinds := [], alts := [], laidByText := true, laidKinds := [.funcs], laidTests := true, laidLooks := .later }
def ParcelEasierCardSaid : Prop := Claim7.holds Tryd.pinned (.plain (OpenSpec.ofChange parcelEasierSpec)) parcelEasierCard

/-- THE TIED CARD OF 'wishbooklaw06.ParcelStamp'. -/
def parcelStampCard : Claim7 := { stood := { row := parcelStampRow, standIns := [], harness := (true, "7e78bb7b744dc57f42afa601b79f48f11b5aa257151351a491f5a1526c7d8ada"), looks := false }, kinds := [], alts := [], laidByText := true, laidKinds := [.funcs], laidTests := true, laidLooks := .later }
def ParcelStampCardSaid : Prop := Claim7.holds Tryd.pinned (.plain (OpenSpec.ofChange parcelStampSpec)) parcelStampCard

/-- THE TIED CARD OF 'wishbooklaw06.ParcelSend'. -/
def parcelSendCard : Claim7 := { stood := { row := parcelSendRow, standIns := [], harness := (true, "7e78bb7b744dc57f42afa601b79f48f11b5aa257151351a491f5a1526c7d8ada"), looks := false }, kinds := [], alts := [], laidByText := true, laidKinds := [.funcs], laidTests := true, laidLooks := .later }
def ParcelSendCardSaid : Prop := Claim7.holds Tryd.pinned (.plain (OpenSpec.ofChange parcelSendSpec)) parcelSendCard

/-- THE TIED CARD OF 'wishbooklaw06.ParcelKnown'. -/
def parcelKnownCard : Claim7 := { stood := { row := parcelKnownRow, standIns := [], harness := (true, "7e78bb7b744dc57f42afa601b79f48f11b5aa257151351a491f5a1526c7d8ada"), looks := false }, kinds := [], alts := [], laidByText := true, laidKinds := [.funcs], laidTests := true, laidLooks := .later }
def ParcelKnownCardSaid : Prop := Claim7.holds Tryd.pinned (.plain (OpenSpec.ofChange parcelKnownSpec)) parcelKnownCard

/-- THE SECOND FORM's CARD OF 'wishbooklaw06.ParcelPosts'. -/
def parcelPostsUptoCard : Claim7 := { stood := { row := parcelPostsUptoRow, standIns := [], harness := (true, "7e78bb7b744dc57f42afa601b79f48f11b5aa257151351a491f5a1526c7d8ada"), looks := false }, kinds := [], alts := [], laidByText := true, laidKinds := [.funcs], laidTests := true, laidLooks := .later }
def ParcelPostsUptoCardSaid : Prop := Claim7.holds Tryd.pinned (.plain (OpenSpec.upto parcelPostsSpec)) parcelPostsUptoCard

/-- THE SECOND FORM's CARD OF 'wishbooklaw06.ParcelCheaps'. -/
def parcelCheapsUptoCard : Claim7 := { stood := { row := parcelCheapsUptoRow, standIns := [], harness := (true, "7e78bb7b744dc57f42afa601b79f48f11b5aa257151351a491f5a1526c7d8ada"), looks := false }, kinds := [], alts := [], laidByText := true, laidKinds := [.funcs], laidTests := true, laidLooks := .later }
def ParcelCheapsUptoCardSaid : Prop := Claim7.holds Tryd.pinned (.plain (OpenSpec.upto parcelCheapsSpec)) parcelCheapsUptoCard

/-- THE SECOND FORM's CARD OF 'wishbooklaw06.ParcelStamps'. -/
def parcelStampsUptoCard : Claim7 := { stood := { row := parcelStampsUptoRow, standIns := [], harness := (true, "7e78bb7b744dc57f42afa601b79f48f11b5aa257151351a491f5a1526c7d8ada"), looks := false }, kinds := [], alts := [], laidByText := true, laidKinds := [.funcs], laidTests := true, laidLooks := .later }
def ParcelStampsUptoCardSaid : Prop := Claim7.holds Tryd.pinned (.plain (OpenSpec.upto parcelStampsSpec)) parcelStampsUptoCard

/-- THE SECOND FORM's CARD OF 'wishbooklaw06.ParcelSends'. -/
def parcelSendsUptoCard : Claim7 := { stood := { row := parcelSendsUptoRow, standIns := [], harness := (true, "7e78bb7b744dc57f42afa601b79f48f11b5aa257151351a491f5a1526c7d8ada"), looks := false }, kinds := [], alts := [], laidByText := true, laidKinds := [.funcs], laidTests := true, laidLooks := .later }
def ParcelSendsUptoCardSaid : Prop := Claim7.holds Tryd.pinned (.plain (OpenSpec.upto parcelSendsSpec)) parcelSendsUptoCard

/-- THE SECOND FORM's CARD OF 'wishbooklaw06.ParcelOnce'. -/
def parcelOnceUptoCard : Claim7 := { stood := { row := parcelOnceUptoRow, standIns := [], harness := (true, "7e78bb7b744dc57f42afa601b79f48f11b5aa257151351a491f5a1526c7d8ada"), looks := false }, kinds := [], alts := [], laidByText := true, laidKinds := [.funcs], laidTests := true, laidLooks := .later }
def ParcelOnceUptoCardSaid : Prop := Claim7.holds Tryd.pinned (.plain (OpenSpec.upto parcelOnceSpec)) parcelOnceUptoCard

/-- THE SECOND FORM's CARD OF 'wishbooklaw06.ParcelBig'. -/
def parcelBigUptoCard : Claim7 := { stood := { row := parcelBigUptoRow, standIns := [], harness := (true, "7e78bb7b744dc57f42afa601b79f48f11b5aa257151351a491f5a1526c7d8ada"), looks := false }, kinds := [], alts := [], laidByText := true, laidKinds := [.funcs], laidTests := true, laidLooks := .later }
def ParcelBigUptoCardSaid : Prop := Claim7.holds Tryd.pinned (.plain (OpenSpec.upto parcelBigSpec)) parcelBigUptoCard

/-- THE SECOND FORM's CARD OF 'wishbooklaw06.ParcelMore'. -/
def parcelMoreUptoCard : Claim7 := { stood := { row := parcelMoreUptoRow, standIns := [], harness := (true, "7e78bb7b744dc57f42afa601b79f48f11b5aa257151351a491f5a1526c7d8ada"), looks := false }, kinds := [], alts := [], laidByText := true, laidKinds := [.funcs], laidTests := true, laidLooks := .later }
def ParcelMoreUptoCardSaid : Prop := Claim7.holds Tryd.pinned (.plain (OpenSpec.upto parcelMoreSpec)) parcelMoreUptoCard

/-- THE SECOND FORM's CARD OF 'wishbooklaw06.ParcelEasier'. -/
def parcelEasierUptoCard : Claim7 := { stood := { row := parcelEasierUptoRow, standIns := [], harness := (true, "7e78bb7b744dc57f42afa601b79f48f11b5aa257151351a491f5a1526c7d8ada"), looks := false }, kinds := [], alts := [], laidByText := true, laidKinds := [.funcs], laidTests := true, laidLooks := .later }
def ParcelEasierUptoCardSaid : Prop := Claim7.holds Tryd.pinned (.plain (OpenSpec.upto parcelEasierSpec)) parcelEasierUptoCard

/-- THE SECOND FORM's CARD OF 'wishbooklaw06.ParcelStamp'. -/
def parcelStampUptoCard : Claim7 := { stood := { row := parcelStampUptoRow, standIns := [], harness := (true, "7e78bb7b744dc57f42afa601b79f48f11b5aa257151351a491f5a1526c7d8ada"), looks := false }, kinds := [], alts := [], laidByText := true, laidKinds := [.funcs], laidTests := true, laidLooks := .later }
def ParcelStampUptoCardSaid : Prop := Claim7.holds Tryd.pinned (.plain (OpenSpec.upto parcelStampSpec)) parcelStampUptoCard

/-- THE SECOND FORM's CARD OF 'wishbooklaw06.ParcelSend'. -/
def parcelSendUptoCard : Claim7 := { stood := { row := parcelSendUptoRow, standIns := [], harness := (true, "7e78bb7b744dc57f42afa601b79f48f11b5aa257151351a491f5a1526c7d8ada"), looks := false }, kinds := [], alts := [], laidByText := true, laidKinds := [.funcs], laidTests := true, laidLooks := .later }
def ParcelSendUptoCardSaid : Prop := Claim7.holds Tryd.pinned (.plain (OpenSpec.upto parcelSendSpec)) parcelSendUptoCard

/-- THE SECOND FORM's CARD OF 'wishbooklaw06.ParcelKnown'. -/
def parcelKnownUptoCard : Claim7 := { stood := { row := parcelKnownUptoRow, standIns := [], harness := (true, "7e78bb7b744dc57f42afa601b79f48f11b5aa257151351a491f5a1526c7d8ada"), looks := false }, kinds := [], alts := [], laidByText := true, laidKinds := [.funcs], laidTests := true, laidLooks := .later }
def ParcelKnownUptoCardSaid : Prop := Claim7.holds Tryd.pinned (.plain (OpenSpec.upto parcelKnownSpec)) parcelKnownUptoCard
end Rows
end Go.Proofs.YtjdljckgphbkmaaDoor
