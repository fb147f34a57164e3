/-
  NARROWER THAN 'FOR EVERY INPUT', by the rows' own cells (each row's printed sentence says how): LetterParted: laid · LetterKnown: laid · LetterOrders: laid · LetterSures: laid · LetterDays: laid · LetterTrue: laid · LetterSound: laid · LetterMore: laid · LetterAsks: laid · LetterSure: laid.
  DERIVED. THE GIVEN ROWS OF THIS SEAT. 10 by the template 'for every input the law returns true; each argument reads behind the call as it read before'; 0 by the template 'total and deterministic' (their statements: YticjjabioiilfaaGreatDoorTotals.lean).
  GIVEN WITH THE SEED: the statements are not yours to turn. If you find one false, say at which input.
  Laid BY PROGRAM, IN A SANDBOX (cutbox-rows.mjs): the forced cells as the released guide's own fill.sh prints them over the translation 2f787e0c49dab262… (all of the seat's roots in one cut). By AI agents, Wed Nov 11 2026. No macro, syntax, notation, axiom, sorry.
-/
import Derived.Test.YticjjabioiilfaaGreatDoorChecked
import GoSem.Claim
import GoSem.ClaimJoined
import GoSem.ClaimMapViews
import Derived.JoinedTies
import Derived.KernelRfl
namespace Go.Proofs.YticjjabioiilfaaGreatDoor
/- THE CELL 'sum', in the pinned program and in every row, IS THE sha256 OF THE DUMP (.gsa) THAT YticjjabioiilfaaGreatDoorProg.lean LOADS. Nothing in Lean hashes anything: it is a label: what it is worth is what the hold of that sum in a sandbox is worth. -/
noncomputable def Tryz.pinned : Pinned := { name := "yticjjabioiilfaagreatdoor", sum := "2f787e0c49dab262b895316200352068c733221f8cc161bff5e409d04f6d3bfc", checked := Tryz.checked }
namespace Rows
def none {H : Type} : Left H := { results := [], args := [] }

/- WHAT THE LISTED PACKAGE-LEVEL VARIABLES READ AS WHEN THE CALL BEGINS. Each datum BY PROGRAM (the guide's laid-datum.mjs) off the statement by which the dump's own 'gosem.cut.vars' lays the variable. In a bare row this is a premise. The card (YticjjabioiilfaaGreatDoorCards.lean) ties it to the program's text. -/
def laid_wishbook_book_kinds {H : Type} : DataW H := .iface "func table" (.agg [.iface "func" (.lit (.string [40, 119, 105, 115, 104, 98, 111, 111, 107, 47, 98, 111, 111, 107, 46, 114, 97, 99, 107, 41, 46, 117, 115, 101, 100])), .iface "func" (.lit (.string [40, 119, 105, 115, 104, 98, 111, 111, 107, 47, 98, 111, 111, 107, 46, 114, 97, 99, 107, 41, 46, 104, 101, 108, 100]))])
def laid_wishbook_letter_fields {H : Type} : DataW H := .iface "func table" (.agg [.iface "func" (.lit (.string [40, 119, 105, 115, 104, 98, 111, 111, 107, 47, 108, 101, 116, 116, 101, 114, 46, 111, 114, 100, 101, 114, 41, 46, 103, 111, 111, 100])), .iface "func" (.lit (.string [40, 119, 105, 115, 104, 98, 111, 111, 107, 47, 108, 101, 116, 116, 101, 114, 46, 111, 114, 100, 101, 114, 41, 46, 115, 105, 122, 101])), .iface "func" (.lit (.string [40, 119, 105, 115, 104, 98, 111, 111, 107, 47, 108, 101, 116, 116, 101, 114, 46, 111, 114, 100, 101, 114, 41, 46, 99, 111, 108, 111, 117, 114])), .iface "func" (.lit (.string [40, 119, 105, 115, 104, 98, 111, 111, 107, 47, 108, 101, 116, 116, 101, 114, 46, 111, 114, 100, 101, 114, 41, 46, 109, 97, 110, 121]))])

/-- 'wishbooklaw02.LetterParted': WHATEVER THE INPUT: true; the input reads as it did. -/
def letterPartedSpec : ChangeSpec := { name := "letterParted", fn := fun _ => fun
  | [d1, d2] => { results := [.lit (.bool true)], args := [d1, d2] }
  | _ => none }
def letterPartedRow : OpenClaim := { program := "yticjjabioiilfaagreatdoor", sum := "2f787e0c49dab262b895316200352068c733221f8cc161bff5e409d04f6d3bfc", func := "wishbook/wishbooklaw02.LetterParted", spec := "letterParted", unfollowed := true, recurses := true, named := ["wishbook/book.kinds", "wishbook/letter.fields"], plainKeys := false, apart := false, laid := [("wishbook/book.kinds", laid_wishbook_book_kinds), ("wishbook/letter.fields", laid_wishbook_letter_fields)] }
def LetterPartedSaid : Prop := letterPartedRow.holds Tryz.pinned (OpenSpec.ofChange letterPartedSpec)

/-- ITS FALSE NEIGHBOUR: 'it returns false'. Refute it at one input. -/
def letterPartedWrong : ChangeSpec := { name := "letterParted", fn := fun _ => fun
  | [d1, d2] => { results := [.lit (.bool false)], args := [d1, d2] }
  | _ => none }
def LetterPartedWrongFalsely : Prop := letterPartedRow.holds Tryz.pinned (OpenSpec.ofChange letterPartedWrong)

/-- 'wishbooklaw02.LetterKnown': WHATEVER THE INPUT: true; the input reads as it did. -/
def letterKnownSpec : ChangeSpec := { name := "letterKnown", fn := fun _ => fun
  | [] => { results := [.lit (.bool true)], args := [] }
  | _ => none }
def letterKnownRow : OpenClaim := { program := "yticjjabioiilfaagreatdoor", sum := "2f787e0c49dab262b895316200352068c733221f8cc161bff5e409d04f6d3bfc", func := "wishbook/wishbooklaw02.LetterKnown", spec := "letterKnown", unfollowed := true, recurses := true, named := ["wishbook/book.kinds", "wishbook/letter.fields"], plainKeys := false, apart := false, laid := [("wishbook/book.kinds", laid_wishbook_book_kinds), ("wishbook/letter.fields", laid_wishbook_letter_fields)] }
def LetterKnownSaid : Prop := letterKnownRow.holds Tryz.pinned (OpenSpec.ofChange letterKnownSpec)

/-- ITS FALSE NEIGHBOUR: 'it returns false'. Refute it at one input. -/
def letterKnownWrong : ChangeSpec := { name := "letterKnown", fn := fun _ => fun
  | [] => { results := [.lit (.bool false)], args := [] }
  | _ => none }
def LetterKnownWrongFalsely : Prop := letterKnownRow.holds Tryz.pinned (OpenSpec.ofChange letterKnownWrong)

/-- 'wishbooklaw02.LetterOrders': WHATEVER THE INPUT: true; the input reads as it did. -/
def letterOrdersSpec : ChangeSpec := { name := "letterOrders", fn := fun _ => fun
  | [d1, d2] => { results := [.lit (.bool true)], args := [d1, d2] }
  | _ => none }
def letterOrdersRow : OpenClaim := { program := "yticjjabioiilfaagreatdoor", sum := "2f787e0c49dab262b895316200352068c733221f8cc161bff5e409d04f6d3bfc", func := "wishbook/wishbooklaw02.LetterOrders", spec := "letterOrders", unfollowed := true, recurses := true, named := ["wishbook/book.kinds", "wishbook/letter.fields"], plainKeys := false, apart := false, laid := [("wishbook/book.kinds", laid_wishbook_book_kinds), ("wishbook/letter.fields", laid_wishbook_letter_fields)] }
def LetterOrdersSaid : Prop := letterOrdersRow.holds Tryz.pinned (OpenSpec.ofChange letterOrdersSpec)

/-- ITS FALSE NEIGHBOUR: 'it returns false'. Refute it at one input. -/
def letterOrdersWrong : ChangeSpec := { name := "letterOrders", fn := fun _ => fun
  | [d1, d2] => { results := [.lit (.bool false)], args := [d1, d2] }
  | _ => none }
def LetterOrdersWrongFalsely : Prop := letterOrdersRow.holds Tryz.pinned (OpenSpec.ofChange letterOrdersWrong)

/-- 'wishbooklaw02.LetterSures': WHATEVER THE INPUT: true; the input reads as it did. -/
def letterSuresSpec : ChangeSpec := { name := "letterSures", fn := fun _ => fun
  | [d1, d2] => { results := [.lit (.bool true)], args := [d1, d2] }
  | _ => none }
def letterSuresRow : OpenClaim := { program := "yticjjabioiilfaagreatdoor", sum := "2f787e0c49dab262b895316200352068c733221f8cc161bff5e409d04f6d3bfc", func := "wishbook/wishbooklaw02.LetterSures", spec := "letterSures", unfollowed := true, recurses := true, named := ["wishbook/book.kinds", "wishbook/letter.fields"], plainKeys := false, apart := false, laid := [("wishbook/book.kinds", laid_wishbook_book_kinds), ("wishbook/letter.fields", laid_wishbook_letter_fields)] }
def LetterSuresSaid : Prop := letterSuresRow.holds Tryz.pinned (OpenSpec.ofChange letterSuresSpec)

/-- ITS FALSE NEIGHBOUR: 'it returns false'. Refute it at one input. -/
def letterSuresWrong : ChangeSpec := { name := "letterSures", fn := fun _ => fun
  | [d1, d2] => { results := [.lit (.bool false)], args := [d1, d2] }
  | _ => none }
def LetterSuresWrongFalsely : Prop := letterSuresRow.holds Tryz.pinned (OpenSpec.ofChange letterSuresWrong)

/-- 'wishbooklaw02.LetterDays': WHATEVER THE INPUT: true; the input reads as it did. -/
def letterDaysSpec : ChangeSpec := { name := "letterDays", fn := fun _ => fun
  | [d1, d2] => { results := [.lit (.bool true)], args := [d1, d2] }
  | _ => none }
def letterDaysRow : OpenClaim := { program := "yticjjabioiilfaagreatdoor", sum := "2f787e0c49dab262b895316200352068c733221f8cc161bff5e409d04f6d3bfc", func := "wishbook/wishbooklaw02.LetterDays", spec := "letterDays", unfollowed := true, recurses := true, named := ["wishbook/book.kinds", "wishbook/letter.fields"], plainKeys := false, apart := false, laid := [("wishbook/book.kinds", laid_wishbook_book_kinds), ("wishbook/letter.fields", laid_wishbook_letter_fields)] }
def LetterDaysSaid : Prop := letterDaysRow.holds Tryz.pinned (OpenSpec.ofChange letterDaysSpec)

/-- ITS FALSE NEIGHBOUR: 'it returns false'. Refute it at one input. -/
def letterDaysWrong : ChangeSpec := { name := "letterDays", fn := fun _ => fun
  | [d1, d2] => { results := [.lit (.bool false)], args := [d1, d2] }
  | _ => none }
def LetterDaysWrongFalsely : Prop := letterDaysRow.holds Tryz.pinned (OpenSpec.ofChange letterDaysWrong)

/-- 'wishbooklaw02.LetterTrue': WHATEVER THE INPUT: true; the input reads as it did. -/
def letterTrueSpec : ChangeSpec := { name := "letterTrue", fn := fun _ => fun
  | [d1, d2] => { results := [.lit (.bool true)], args := [d1, d2] }
  | _ => none }
def letterTrueRow : OpenClaim := { program := "yticjjabioiilfaagreatdoor", sum := "2f787e0c49dab262b895316200352068c733221f8cc161bff5e409d04f6d3bfc", func := "wishbook/wishbooklaw02.LetterTrue", spec := "letterTrue", unfollowed := true, recurses := true, named := ["wishbook/book.kinds", "wishbook/letter.fields"], plainKeys := false, apart := false, laid := [("wishbook/book.kinds", laid_wishbook_book_kinds), ("wishbook/letter.fields", laid_wishbook_letter_fields)] }
def LetterTrueSaid : Prop := letterTrueRow.holds Tryz.pinned (OpenSpec.ofChange letterTrueSpec)

/-- ITS FALSE NEIGHBOUR: 'it returns false'. Refute it at one input. -/
def letterTrueWrong : ChangeSpec := { name := "letterTrue", fn := fun _ => fun
  | [d1, d2] => { results := [.lit (.bool false)], args := [d1, d2] }
  | _ => none }
def LetterTrueWrongFalsely : Prop := letterTrueRow.holds Tryz.pinned (OpenSpec.ofChange letterTrueWrong)

/-- 'wishbooklaw02.LetterSound': WHATEVER THE INPUT: true; the input reads as it did. -/
def letterSoundSpec : ChangeSpec := { name := "letterSound", fn := fun _ => fun
  | [d] => { results := [.lit (.bool true)], args := [d] }
  | _ => none }
def letterSoundRow : OpenClaim := { program := "yticjjabioiilfaagreatdoor", sum := "2f787e0c49dab262b895316200352068c733221f8cc161bff5e409d04f6d3bfc", func := "wishbook/wishbooklaw02.LetterSound", spec := "letterSound", unfollowed := true, recurses := true, named := ["wishbook/book.kinds", "wishbook/letter.fields"], plainKeys := false, apart := false, laid := [("wishbook/book.kinds", laid_wishbook_book_kinds), ("wishbook/letter.fields", laid_wishbook_letter_fields)] }
def LetterSoundSaid : Prop := letterSoundRow.holds Tryz.pinned (OpenSpec.ofChange letterSoundSpec)

/-- ITS FALSE NEIGHBOUR: 'it returns false'. Refute it at one input. -/
def letterSoundWrong : ChangeSpec := { name := "letterSound", fn := fun _ => fun
  | [d] => { results := [.lit (.bool false)], args := [d] }
  | _ => none }
def LetterSoundWrongFalsely : Prop := letterSoundRow.holds Tryz.pinned (OpenSpec.ofChange letterSoundWrong)

/-- 'wishbooklaw02.LetterMore': WHATEVER THE INPUT: true; the input reads as it did. -/
def letterMoreSpec : ChangeSpec := { name := "letterMore", fn := fun _ => fun
  | [d1, d2] => { results := [.lit (.bool true)], args := [d1, d2] }
  | _ => none }
def letterMoreRow : OpenClaim := { program := "yticjjabioiilfaagreatdoor", sum := "2f787e0c49dab262b895316200352068c733221f8cc161bff5e409d04f6d3bfc", func := "wishbook/wishbooklaw02.LetterMore", spec := "letterMore", unfollowed := true, recurses := true, named := ["wishbook/book.kinds", "wishbook/letter.fields"], plainKeys := false, apart := false, laid := [("wishbook/book.kinds", laid_wishbook_book_kinds), ("wishbook/letter.fields", laid_wishbook_letter_fields)] }
def LetterMoreSaid : Prop := letterMoreRow.holds Tryz.pinned (OpenSpec.ofChange letterMoreSpec)

/-- ITS FALSE NEIGHBOUR: 'it returns false'. Refute it at one input. -/
def letterMoreWrong : ChangeSpec := { name := "letterMore", fn := fun _ => fun
  | [d1, d2] => { results := [.lit (.bool false)], args := [d1, d2] }
  | _ => none }
def LetterMoreWrongFalsely : Prop := letterMoreRow.holds Tryz.pinned (OpenSpec.ofChange letterMoreWrong)

/-- 'wishbooklaw02.LetterAsks': WHATEVER THE INPUT: true; the input reads as it did. -/
def letterAsksSpec : ChangeSpec := { name := "letterAsks", fn := fun _ => fun
  | [d1, d2] => { results := [.lit (.bool true)], args := [d1, d2] }
  | _ => none }
def letterAsksRow : OpenClaim := { program := "yticjjabioiilfaagreatdoor", sum := "2f787e0c49dab262b895316200352068c733221f8cc161bff5e409d04f6d3bfc", func := "wishbook/wishbooklaw02.LetterAsks", spec := "letterAsks", unfollowed := true, recurses := true, named := ["wishbook/book.kinds", "wishbook/letter.fields"], plainKeys := false, apart := false, laid := [("wishbook/book.kinds", laid_wishbook_book_kinds), ("wishbook/letter.fields", laid_wishbook_letter_fields)] }
def LetterAsksSaid : Prop := letterAsksRow.holds Tryz.pinned (OpenSpec.ofChange letterAsksSpec)

/-- ITS FALSE NEIGHBOUR: 'it returns false'. Refute it at one input. -/
def letterAsksWrong : ChangeSpec := { name := "letterAsks", fn := fun _ => fun
  | [d1, d2] => { results := [.lit (.bool false)], args := [d1, d2] }
  | _ => none }
def LetterAsksWrongFalsely : Prop := letterAsksRow.holds Tryz.pinned (OpenSpec.ofChange letterAsksWrong)

/-- 'wishbooklaw02.LetterSure': WHATEVER THE INPUT: true; the input reads as it did. -/
def letterSureSpec : ChangeSpec := { name := "letterSure", fn := fun _ => fun
  | [d] => { results := [.lit (.bool true)], args := [d] }
  | _ => none }
def letterSureRow : OpenClaim := { program := "yticjjabioiilfaagreatdoor", sum := "2f787e0c49dab262b895316200352068c733221f8cc161bff5e409d04f6d3bfc", func := "wishbook/wishbooklaw02.LetterSure", spec := "letterSure", unfollowed := true, recurses := true, named := ["wishbook/book.kinds", "wishbook/letter.fields"], plainKeys := false, apart := false, laid := [("wishbook/book.kinds", laid_wishbook_book_kinds), ("wishbook/letter.fields", laid_wishbook_letter_fields)] }
def LetterSureSaid : Prop := letterSureRow.holds Tryz.pinned (OpenSpec.ofChange letterSureSpec)

/-- ITS FALSE NEIGHBOUR: 'it returns false'. Refute it at one input. -/
def letterSureWrong : ChangeSpec := { name := "letterSure", fn := fun _ => fun
  | [d] => { results := [.lit (.bool false)], args := [d] }
  | _ => none }
def LetterSureWrongFalsely : Prop := letterSureRow.holds Tryz.pinned (OpenSpec.ofChange letterSureWrong)

/- THE SECOND FORM. 'bulk': how many values and letters a reading holds, each counted each time it is reached (what is shared counts as often as it is met; a slice's spare places count too). A statement '..UptoSaid' is the law's where the arguments, and the package variables that the reading takes, are together of bulk at most 1048576: NARROWER than '..Said'. Prove '..Said' where nothing that the law and all that it calls make is longer than what came in: it says more and counts as full. Else prove '..UptoSaid'. A law counts once. -/
mutual
def uptoBulk {H : Type} : DataW H → Nat
  | .lit (.string bytes) => bytes.length + 1
  | .lit _ => 1
  | .nil => 1
  | .ptr d => uptoBulk d + 1
  | .slice elems spare => uptoBulkAll elems + uptoBulkAll spare + 1
  | .agg parts => uptoBulkAll parts + 1
  | .iface _ d => uptoBulk d + 1
  | .map entries => uptoBulkEntries entries + 1
  | .held _ => 1
def uptoBulkAll {H : Type} : List (DataW H) → Nat
  | [] => 0
  | d :: r => uptoBulk d + uptoBulkAll r
def uptoBulkEntries {H : Type} : List (Lit × DataW H) → Nat
  | [] => 0
  | x :: r => uptoBulkEntry x + uptoBulkEntries r
def uptoBulkEntry {H : Type} : Lit × DataW H → Nat
  | (.string bytes, d) => bytes.length + uptoBulk d + 1
  | (_, d) => uptoBulk d + 1
 end
def uptoSmall : (H : Type) → List (DataW H) → Bool := fun _ ds => decide (uptoBulkAll ds ≤ 1048576)
def OpenSpec.upto (s : _root_.Go.ChangeSpec) : _root_.Go.OpenSpec := { _root_.Go.OpenSpec.ofChange s with cond := some uptoSmall }

/-- 'wishbooklaw02.LetterParted', WHERE WHAT IT READS IS OF BULK AT MOST 1048576: true; the input reads as it did. -/
def letterPartedUptoRow : OpenClaim := { program := "yticjjabioiilfaagreatdoor", sum := "2f787e0c49dab262b895316200352068c733221f8cc161bff5e409d04f6d3bfc", func := "wishbook/wishbooklaw02.LetterParted", spec := "letterParted", unfollowed := true, recurses := true, named := ["wishbook/book.kinds", "wishbook/letter.fields"], plainKeys := false, apart := false, laid := [("wishbook/book.kinds", laid_wishbook_book_kinds), ("wishbook/letter.fields", laid_wishbook_letter_fields)], narrowed := true }
def LetterPartedUptoSaid : Prop := letterPartedUptoRow.holds Tryz.pinned (OpenSpec.upto letterPartedSpec)

/-- 'wishbooklaw02.LetterKnown', WHERE WHAT IT READS IS OF BULK AT MOST 1048576: true; the input reads as it did. -/
def letterKnownUptoRow : OpenClaim := { program := "yticjjabioiilfaagreatdoor", sum := "2f787e0c49dab262b895316200352068c733221f8cc161bff5e409d04f6d3bfc", func := "wishbook/wishbooklaw02.LetterKnown", spec := "letterKnown", unfollowed := true, recurses := true, named := ["wishbook/book.kinds", "wishbook/letter.fields"], plainKeys := false, apart := false, laid := [("wishbook/book.kinds", laid_wishbook_book_kinds), ("wishbook/letter.fields", laid_wishbook_letter_fields)], narrowed := true }
def LetterKnownUptoSaid : Prop := letterKnownUptoRow.holds Tryz.pinned (OpenSpec.upto letterKnownSpec)

/-- 'wishbooklaw02.LetterOrders', WHERE WHAT IT READS IS OF BULK AT MOST 1048576: true; the input reads as it did. -/
def letterOrdersUptoRow : OpenClaim := { program := "yticjjabioiilfaagreatdoor", sum := "2f787e0c49dab262b895316200352068c733221f8cc161bff5e409d04f6d3bfc", func := "wishbook/wishbooklaw02.LetterOrders", spec := "letterOrders", unfollowed := true, recurses := true, named := ["wishbook/book.kinds", "wishbook/letter.fields"], plainKeys := false, apart := false, laid := [("wishbook/book.kinds", laid_wishbook_book_kinds), ("wishbook/letter.fields", laid_wishbook_letter_fields)], narrowed := true }
def LetterOrdersUptoSaid : Prop := letterOrdersUptoRow.holds Tryz.pinned (OpenSpec.upto letterOrdersSpec)

/-- 'wishbooklaw02.LetterSures', WHERE WHAT IT READS IS OF BULK AT MOST 1048576: true; the input reads as it did. -/
def letterSuresUptoRow : OpenClaim := { program := "yticjjabioiilfaagreatdoor", sum := "2f787e0c49dab262b895316200352068c733221f8cc161bff5e409d04f6d3bfc", func := "wishbook/wishbooklaw02.LetterSures", spec := "letterSures", unfollowed := true, recurses := true, named := ["wishbook/book.kinds", "wishbook/letter.fields"], plainKeys := false, apart := false, laid := [("wishbook/book.kinds", laid_wishbook_book_kinds), ("wishbook/letter.fields", laid_wishbook_letter_fields)], narrowed := true }
def LetterSuresUptoSaid : Prop := letterSuresUptoRow.holds Tryz.pinned (OpenSpec.upto letterSuresSpec)

/-- 'wishbooklaw02.LetterDays', WHERE WHAT IT READS IS OF BULK AT MOST 1048576: true; the input reads as it did. -/
def letterDaysUptoRow : OpenClaim := { program := "yticjjabioiilfaagreatdoor", sum := "2f787e0c49dab262b895316200352068c733221f8cc161bff5e409d04f6d3bfc", func := "wishbook/wishbooklaw02.LetterDays", spec := "letterDays", unfollowed := true, recurses := true, named := ["wishbook/book.kinds", "wishbook/letter.fields"], plainKeys := false, apart := false, laid := [("wishbook/book.kinds", laid_wishbook_book_kinds), ("wishbook/letter.fields", laid_wishbook_letter_fields)], narrowed := true }
def LetterDaysUptoSaid : Prop := letterDaysUptoRow.holds Tryz.pinned (OpenSpec.upto letterDaysSpec)

/-- 'wishbooklaw02.LetterTrue', WHERE WHAT IT READS IS OF BULK AT MOST 1048576: true; the input reads as it did. -/
def letterTrueUptoRow : OpenClaim := { program := "yticjjabioiilfaagreatdoor", sum := "2f787e0c49dab262b895316200352068c733221f8cc161bff5e409d04f6d3bfc", func := "wishbook/wishbooklaw02.LetterTrue", spec := "letterTrue", unfollowed := true, recurses := true, named := ["wishbook/book.kinds", "wishbook/letter.fields"], plainKeys := false, apart := false, laid := [("wishbook/book.kinds", laid_wishbook_book_kinds), ("wishbook/letter.fields", laid_wishbook_letter_fields)], narrowed := true }
def LetterTrueUptoSaid : Prop := letterTrueUptoRow.holds Tryz.pinned (OpenSpec.upto letterTrueSpec)

/-- 'wishbooklaw02.LetterSound', WHERE WHAT IT READS IS OF BULK AT MOST 1048576: true; the input reads as it did. -/
def letterSoundUptoRow : OpenClaim := { program := "yticjjabioiilfaagreatdoor", sum := "2f787e0c49dab262b895316200352068c733221f8cc161bff5e409d04f6d3bfc", func := "wishbook/wishbooklaw02.LetterSound", spec := "letterSound", unfollowed := true, recurses := true, named := ["wishbook/book.kinds", "wishbook/letter.fields"], plainKeys := false, apart := false, laid := [("wishbook/book.kinds", laid_wishbook_book_kinds), ("wishbook/letter.fields", laid_wishbook_letter_fields)], narrowed := true }
def LetterSoundUptoSaid : Prop := letterSoundUptoRow.holds Tryz.pinned (OpenSpec.upto letterSoundSpec)

/-- 'wishbooklaw02.LetterMore', WHERE WHAT IT READS IS OF BULK AT MOST 1048576: true; the input reads as it did. -/
def letterMoreUptoRow : OpenClaim := { program := "yticjjabioiilfaagreatdoor", sum := "2f787e0c49dab262b895316200352068c733221f8cc161bff5e409d04f6d3bfc", func := "wishbook/wishbooklaw02.LetterMore", spec := "letterMore", unfollowed := true, recurses := true, named := ["wishbook/book.kinds", "wishbook/letter.fields"], plainKeys := false, apart := false, laid := [("wishbook/book.kinds", laid_wishbook_book_kinds), ("wishbook/letter.fields", laid_wishbook_letter_fields)], narrowed := true }
def LetterMoreUptoSaid : Prop := letterMoreUptoRow.holds Tryz.pinned (OpenSpec.upto letterMoreSpec)

/-- 'wishbooklaw02.LetterAsks', WHERE WHAT IT READS IS OF BULK AT MOST 1048576: true; the input reads as it did. -/
def letterAsksUptoRow : OpenClaim := { program := "yticjjabioiilfaagreatdoor", sum := "2f787e0c49dab262b895316200352068c733221f8cc161bff5e409d04f6d3bfc", func := "wishbook/wishbooklaw02.LetterAsks", spec := "letterAsks", unfollowed := true, recurses := true, named := ["wishbook/book.kinds", "wishbook/letter.fields"], plainKeys := false, apart := false, laid := [("wishbook/book.kinds", laid_wishbook_book_kinds), ("wishbook/letter.fields", laid_wishbook_letter_fields)], narrowed := true }
def LetterAsksUptoSaid : Prop := letterAsksUptoRow.holds Tryz.pinned (OpenSpec.upto letterAsksSpec)

/-- 'wishbooklaw02.LetterSure', WHERE WHAT IT READS IS OF BULK AT MOST 1048576: true; the input reads as it did. -/
def letterSureUptoRow : OpenClaim := { program := "yticjjabioiilfaagreatdoor", sum := "2f787e0c49dab262b895316200352068c733221f8cc161bff5e409d04f6d3bfc", func := "wishbook/wishbooklaw02.LetterSure", spec := "letterSure", unfollowed := true, recurses := true, named := ["wishbook/book.kinds", "wishbook/letter.fields"], plainKeys := false, apart := false, laid := [("wishbook/book.kinds", laid_wishbook_book_kinds), ("wishbook/letter.fields", laid_wishbook_letter_fields)], narrowed := true }
def LetterSureUptoSaid : Prop := letterSureUptoRow.holds Tryz.pinned (OpenSpec.upto letterSureSpec)

end Rows
end Go.Proofs.YticjjabioiilfaaGreatDoor
