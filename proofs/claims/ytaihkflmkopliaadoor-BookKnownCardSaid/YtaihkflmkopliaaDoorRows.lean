/-
  NARROWER THAN 'FOR EVERY INPUT', by the rows' own cells (each row's printed sentence says how): BookNumbers: laid · BookPrices: laid · BookSums: laid · BookFits: laid · BookMeant: laid · BookBack: laid · BookTwins: laid · BookKept: laid · BookMore: laid · BookDays: laid · BookAdded: laid · BookCheapest: laid · BookFoot: laid · BookKnown: laid.
  DERIVED. THE GIVEN ROWS OF THIS SEAT. 14 by the template 'for every input the law returns true; each argument reads behind the call as it read before'; 0 by the template 'total and deterministic' (their statements: YtaihkflmkopliaaDoorTotals.lean).
  GIVEN WITH THE SEED: the statements are not yours to turn. If you find one false, say at which input.
  Laid BY PROGRAM, IN A SANDBOX (cutbox-rows.mjs): the forced cells as the released guide's own fill.sh prints them over the translation d718e64656d1696a… (all of the seat's roots in one cut). By AI agents, Wed Nov 11 2026. No macro, syntax, notation, axiom, sorry.
-/
import Derived.Test.YtaihkflmkopliaaDoorChecked
import GoSem.Claim
import GoSem.ClaimJoined
import GoSem.ClaimMapViews
import Derived.JoinedTies
import Derived.KernelRfl
namespace Go.Proofs.YtaihkflmkopliaaDoor
/- THE CELL 'sum', in the pinned program and in every row, IS THE sha256 OF THE DUMP (.gsa) THAT YtaihkflmkopliaaDoorProg.lean LOADS. Nothing in Lean hashes anything: it is a label: what it is worth is what the hold of that sum in a sandbox is worth. -/
noncomputable def Tryd.pinned : Pinned := { name := "ytaihkflmkopliaadoor", sum := "d718e64656d1696ab4721b81d6d16de6e11fafde52b248a23a980415a0d745a0", checked := Tryd.checked }
namespace Rows
def none {H : Type} : Left H := { results := [], args := [] }

/- WHAT THE LISTED PACKAGE-LEVEL VARIABLES READ AS WHEN THE CALL BEGINS. Each datum BY PROGRAM (the guide's laid-datum.mjs) off the statement by which the dump's own 'gosem.cut.vars' lays the variable. In a bare row this is a premise. The card (YtaihkflmkopliaaDoorCards.lean) ties it to the program's text. -/
def laid_wishbook_book_kinds {H : Type} : DataW H := .iface "func table" (.agg [.iface "func" (.lit (.string [40, 119, 105, 115, 104, 98, 111, 111, 107, 47, 98, 111, 111, 107, 46, 114, 97, 99, 107, 41, 46, 117, 115, 101, 100])), .iface "func" (.lit (.string [40, 119, 105, 115, 104, 98, 111, 111, 107, 47, 98, 111, 111, 107, 46, 114, 97, 99, 107, 41, 46, 104, 101, 108, 100]))])

/-- 'wishbooklaw01.BookNumbers': WHATEVER THE INPUT: true; the input reads as it did. -/
def bookNumbersSpec : ChangeSpec := { name := "bookNumbers", fn := fun _ => fun
  | [d1, d2, d3] => { results := [.lit (.bool true)], args := [d1, d2, d3] }
  | _ => none }
def bookNumbersRow : OpenClaim := { program := "ytaihkflmkopliaadoor", sum := "d718e64656d1696ab4721b81d6d16de6e11fafde52b248a23a980415a0d745a0", func := "wishbook/wishbooklaw01.BookNumbers", spec := "bookNumbers", unfollowed := true, recurses := true, named := ["wishbook/book.kinds"], plainKeys := false, apart := false, laid := [("wishbook/book.kinds", laid_wishbook_book_kinds)] }
def BookNumbersSaid : Prop := bookNumbersRow.holds Tryd.pinned (OpenSpec.ofChange bookNumbersSpec)

/-- ITS FALSE NEIGHBOUR: 'it returns false'. Refute it at one input. -/
def bookNumbersWrong : ChangeSpec := { name := "bookNumbers", fn := fun _ => fun
  | [d1, d2, d3] => { results := [.lit (.bool false)], args := [d1, d2, d3] }
  | _ => none }
def BookNumbersWrongFalsely : Prop := bookNumbersRow.holds Tryd.pinned (OpenSpec.ofChange bookNumbersWrong)

/-- 'wishbooklaw01.BookPrices': WHATEVER THE INPUT: true; the input reads as it did. -/
def bookPricesSpec : ChangeSpec := { name := "bookPrices", fn := fun _ => fun
  | [d1, d2, d3, d4] => { results := [.lit (.bool true)], args := [d1, d2, d3, d4] }
  | _ => none }
def bookPricesRow : OpenClaim := { program := "ytaihkflmkopliaadoor", sum := "d718e64656d1696ab4721b81d6d16de6e11fafde52b248a23a980415a0d745a0", func := "wishbook/wishbooklaw01.BookPrices", spec := "bookPrices", unfollowed := true, recurses := true, named := ["wishbook/book.kinds"], plainKeys := false, apart := false, laid := [("wishbook/book.kinds", laid_wishbook_book_kinds)] }
def BookPricesSaid : Prop := bookPricesRow.holds Tryd.pinned (OpenSpec.ofChange bookPricesSpec)

/-- ITS FALSE NEIGHBOUR: 'it returns false'. Refute it at one input. -/
def bookPricesWrong : ChangeSpec := { name := "bookPrices", fn := fun _ => fun
  | [d1, d2, d3, d4] => { results := [.lit (.bool false)], args := [d1, d2, d3, d4] }
  | _ => none }
def BookPricesWrongFalsely : Prop := bookPricesRow.holds Tryd.pinned (OpenSpec.ofChange bookPricesWrong)

/-- 'wishbooklaw01.BookSums': WHATEVER THE INPUT: true; the input reads as it did. -/
def bookSumsSpec : ChangeSpec := { name := "bookSums", fn := fun _ => fun
  | [d1, d2, d3] => { results := [.lit (.bool true)], args := [d1, d2, d3] }
  | _ => none }
def bookSumsRow : OpenClaim := { program := "ytaihkflmkopliaadoor", sum := "d718e64656d1696ab4721b81d6d16de6e11fafde52b248a23a980415a0d745a0", func := "wishbook/wishbooklaw01.BookSums", spec := "bookSums", unfollowed := true, recurses := true, named := ["wishbook/book.kinds"], plainKeys := false, apart := false, laid := [("wishbook/book.kinds", laid_wishbook_book_kinds)] }
def BookSumsSaid : Prop := bookSumsRow.holds Tryd.pinned (OpenSpec.ofChange bookSumsSpec)

/-- ITS FALSE NEIGHBOUR: 'it returns false'. Refute it at one input. -/
def bookSumsWrong : ChangeSpec := { name := "bookSums", fn := fun _ => fun
  | [d1, d2, d3] => { results := [.lit (.bool false)], args := [d1, d2, d3] }
  | _ => none }
def BookSumsWrongFalsely : Prop := bookSumsRow.holds Tryd.pinned (OpenSpec.ofChange bookSumsWrong)

/-- 'wishbooklaw01.BookFits': WHATEVER THE INPUT: true; the input reads as it did. -/
def bookFitsSpec : ChangeSpec := { name := "bookFits", fn := fun _ => fun
  | [d1, d2, d3] => { results := [.lit (.bool true)], args := [d1, d2, d3] }
  | _ => none }
def bookFitsRow : OpenClaim := { program := "ytaihkflmkopliaadoor", sum := "d718e64656d1696ab4721b81d6d16de6e11fafde52b248a23a980415a0d745a0", func := "wishbook/wishbooklaw01.BookFits", spec := "bookFits", unfollowed := true, recurses := true, named := ["wishbook/book.kinds"], plainKeys := false, apart := false, laid := [("wishbook/book.kinds", laid_wishbook_book_kinds)] }
def BookFitsSaid : Prop := bookFitsRow.holds Tryd.pinned (OpenSpec.ofChange bookFitsSpec)

/-- ITS FALSE NEIGHBOUR: 'it returns false'. Refute it at one input. -/
def bookFitsWrong : ChangeSpec := { name := "bookFits", fn := fun _ => fun
  | [d1, d2, d3] => { results := [.lit (.bool false)], args := [d1, d2, d3] }
  | _ => none }
def BookFitsWrongFalsely : Prop := bookFitsRow.holds Tryd.pinned (OpenSpec.ofChange bookFitsWrong)

/-- 'wishbooklaw01.BookMeant': WHATEVER THE INPUT: true; the input reads as it did. -/
def bookMeantSpec : ChangeSpec := { name := "bookMeant", fn := fun _ => fun
  | [d1, d2] => { results := [.lit (.bool true)], args := [d1, d2] }
  | _ => none }
def bookMeantRow : OpenClaim := { program := "ytaihkflmkopliaadoor", sum := "d718e64656d1696ab4721b81d6d16de6e11fafde52b248a23a980415a0d745a0", func := "wishbook/wishbooklaw01.BookMeant", spec := "bookMeant", unfollowed := true, recurses := true, named := ["wishbook/book.kinds"], plainKeys := false, apart := false, laid := [("wishbook/book.kinds", laid_wishbook_book_kinds)] }
def BookMeantSaid : Prop := bookMeantRow.holds Tryd.pinned (OpenSpec.ofChange bookMeantSpec)

/-- ITS FALSE NEIGHBOUR: 'it returns false'. Refute it at one input. -/
def bookMeantWrong : ChangeSpec := { name := "bookMeant", fn := fun _ => fun
  | [d1, d2] => { results := [.lit (.bool false)], args := [d1, d2] }
  | _ => none }
def BookMeantWrongFalsely : Prop := bookMeantRow.holds Tryd.pinned (OpenSpec.ofChange bookMeantWrong)

/-- 'wishbooklaw01.BookBack': WHATEVER THE INPUT: true; the input reads as it did. -/
def bookBackSpec : ChangeSpec := { name := "bookBack", fn := fun _ => fun
  | [d1, d2] => { results := [.lit (.bool true)], args := [d1, d2] }
  | _ => none }
def bookBackRow : OpenClaim := { program := "ytaihkflmkopliaadoor", sum := "d718e64656d1696ab4721b81d6d16de6e11fafde52b248a23a980415a0d745a0", func := "wishbook/wishbooklaw01.BookBack", spec := "bookBack", unfollowed := true, recurses := true, named := ["wishbook/book.kinds"], plainKeys := false, apart := false, laid := [("wishbook/book.kinds", laid_wishbook_book_kinds)] }
def BookBackSaid : Prop := bookBackRow.holds Tryd.pinned (OpenSpec.ofChange bookBackSpec)

/-- ITS FALSE NEIGHBOUR: 'it returns false'. Refute it at one input. -/
def bookBackWrong : ChangeSpec := { name := "bookBack", fn := fun _ => fun
  | [d1, d2] => { results := [.lit (.bool false)], args := [d1, d2] }
  | _ => none }
def BookBackWrongFalsely : Prop := bookBackRow.holds Tryd.pinned (OpenSpec.ofChange bookBackWrong)

/-- 'wishbooklaw01.BookTwins': WHATEVER THE INPUT: true; the input reads as it did. -/
def bookTwinsSpec : ChangeSpec := { name := "bookTwins", fn := fun _ => fun
  | [d1, d2] => { results := [.lit (.bool true)], args := [d1, d2] }
  | _ => none }
def bookTwinsRow : OpenClaim := { program := "ytaihkflmkopliaadoor", sum := "d718e64656d1696ab4721b81d6d16de6e11fafde52b248a23a980415a0d745a0", func := "wishbook/wishbooklaw01.BookTwins", spec := "bookTwins", unfollowed := true, recurses := true, named := ["wishbook/book.kinds"], plainKeys := false, apart := false, laid := [("wishbook/book.kinds", laid_wishbook_book_kinds)] }
def BookTwinsSaid : Prop := bookTwinsRow.holds Tryd.pinned (OpenSpec.ofChange bookTwinsSpec)

/-- ITS FALSE NEIGHBOUR: 'it returns false'. Refute it at one input. -/
def bookTwinsWrong : ChangeSpec := { name := "bookTwins", fn := fun _ => fun
  | [d1, d2] => { results := [.lit (.bool false)], args := [d1, d2] }
  | _ => none }
def BookTwinsWrongFalsely : Prop := bookTwinsRow.holds Tryd.pinned (OpenSpec.ofChange bookTwinsWrong)

/-- 'wishbooklaw01.BookKept': WHATEVER THE INPUT: true; the input reads as it did. -/
def bookKeptSpec : ChangeSpec := { name := "bookKept", fn := fun _ => fun
  | [d1, d2, d3] => { results := [.lit (.bool true)], args := [d1, d2, d3] }
  | _ => none }
def bookKeptRow : OpenClaim := { program := "ytaihkflmkopliaadoor", sum := "d718e64656d1696ab4721b81d6d16de6e11fafde52b248a23a980415a0d745a0", func := "wishbook/wishbooklaw01.BookKept", spec := "bookKept", unfollowed := true, recurses := true, named := ["wishbook/book.kinds"], plainKeys := false, apart := false, laid := [("wishbook/book.kinds", laid_wishbook_book_kinds)] }
def BookKeptSaid : Prop := bookKeptRow.holds Tryd.pinned (OpenSpec.ofChange bookKeptSpec)

/-- ITS FALSE NEIGHBOUR: 'it returns false'. Refute it at one input. -/
def bookKeptWrong : ChangeSpec := { name := "bookKept", fn := fun _ => fun
  | [d1, d2, d3] => { results := [.lit (.bool false)], args := [d1, d2, d3] }
  | _ => none }
def BookKeptWrongFalsely : Prop := bookKeptRow.holds Tryd.pinned (OpenSpec.ofChange bookKeptWrong)

/-- 'wishbooklaw01.BookMore': WHATEVER THE INPUT: true; the input reads as it did. -/
def bookMoreSpec : ChangeSpec := { name := "bookMore", fn := fun _ => fun
  | [d1, d2, d3, d4] => { results := [.lit (.bool true)], args := [d1, d2, d3, d4] }
  | _ => none }
def bookMoreRow : OpenClaim := { program := "ytaihkflmkopliaadoor", sum := "d718e64656d1696ab4721b81d6d16de6e11fafde52b248a23a980415a0d745a0", func := "wishbook/wishbooklaw01.BookMore", spec := "bookMore", unfollowed := true, recurses := true, named := ["wishbook/book.kinds"], plainKeys := false, apart := false, laid := [("wishbook/book.kinds", laid_wishbook_book_kinds)] }
def BookMoreSaid : Prop := bookMoreRow.holds Tryd.pinned (OpenSpec.ofChange bookMoreSpec)

/-- ITS FALSE NEIGHBOUR: 'it returns false'. Refute it at one input. -/
def bookMoreWrong : ChangeSpec := { name := "bookMore", fn := fun _ => fun
  | [d1, d2, d3, d4] => { results := [.lit (.bool false)], args := [d1, d2, d3, d4] }
  | _ => none }
def BookMoreWrongFalsely : Prop := bookMoreRow.holds Tryd.pinned (OpenSpec.ofChange bookMoreWrong)

/-- 'wishbooklaw01.BookDays': WHATEVER THE INPUT: true; the input reads as it did. -/
def bookDaysSpec : ChangeSpec := { name := "bookDays", fn := fun _ => fun
  | [d1, d2, d3] => { results := [.lit (.bool true)], args := [d1, d2, d3] }
  | _ => none }
def bookDaysRow : OpenClaim := { program := "ytaihkflmkopliaadoor", sum := "d718e64656d1696ab4721b81d6d16de6e11fafde52b248a23a980415a0d745a0", func := "wishbook/wishbooklaw01.BookDays", spec := "bookDays", unfollowed := true, recurses := true, named := ["wishbook/book.kinds"], plainKeys := false, apart := false, laid := [("wishbook/book.kinds", laid_wishbook_book_kinds)] }
def BookDaysSaid : Prop := bookDaysRow.holds Tryd.pinned (OpenSpec.ofChange bookDaysSpec)

/-- ITS FALSE NEIGHBOUR: 'it returns false'. Refute it at one input. -/
def bookDaysWrong : ChangeSpec := { name := "bookDays", fn := fun _ => fun
  | [d1, d2, d3] => { results := [.lit (.bool false)], args := [d1, d2, d3] }
  | _ => none }
def BookDaysWrongFalsely : Prop := bookDaysRow.holds Tryd.pinned (OpenSpec.ofChange bookDaysWrong)

/-- 'wishbooklaw01.BookAdded': WHATEVER THE INPUT: true; the input reads as it did. -/
def bookAddedSpec : ChangeSpec := { name := "bookAdded", fn := fun _ => fun
  | [d1, d2, d3] => { results := [.lit (.bool true)], args := [d1, d2, d3] }
  | _ => none }
def bookAddedRow : OpenClaim := { program := "ytaihkflmkopliaadoor", sum := "d718e64656d1696ab4721b81d6d16de6e11fafde52b248a23a980415a0d745a0", func := "wishbook/wishbooklaw01.BookAdded", spec := "bookAdded", unfollowed := true, recurses := true, named := ["wishbook/book.kinds"], plainKeys := false, apart := false, laid := [("wishbook/book.kinds", laid_wishbook_book_kinds)] }
def BookAddedSaid : Prop := bookAddedRow.holds Tryd.pinned (OpenSpec.ofChange bookAddedSpec)

/-- ITS FALSE NEIGHBOUR: 'it returns false'. Refute it at one input. -/
def bookAddedWrong : ChangeSpec := { name := "bookAdded", fn := fun _ => fun
  | [d1, d2, d3] => { results := [.lit (.bool false)], args := [d1, d2, d3] }
  | _ => none }
def BookAddedWrongFalsely : Prop := bookAddedRow.holds Tryd.pinned (OpenSpec.ofChange bookAddedWrong)

/-- 'wishbooklaw01.BookCheapest': WHATEVER THE INPUT: true; the input reads as it did. -/
def bookCheapestSpec : ChangeSpec := { name := "bookCheapest", fn := fun _ => fun
  | [d1, d2, d3] => { results := [.lit (.bool true)], args := [d1, d2, d3] }
  | _ => none }
def bookCheapestRow : OpenClaim := { program := "ytaihkflmkopliaadoor", sum := "d718e64656d1696ab4721b81d6d16de6e11fafde52b248a23a980415a0d745a0", func := "wishbook/wishbooklaw01.BookCheapest", spec := "bookCheapest", unfollowed := true, recurses := true, named := ["wishbook/book.kinds"], plainKeys := false, apart := false, laid := [("wishbook/book.kinds", laid_wishbook_book_kinds)] }
def BookCheapestSaid : Prop := bookCheapestRow.holds Tryd.pinned (OpenSpec.ofChange bookCheapestSpec)

/-- ITS FALSE NEIGHBOUR: 'it returns false'. Refute it at one input. -/
def bookCheapestWrong : ChangeSpec := { name := "bookCheapest", fn := fun _ => fun
  | [d1, d2, d3] => { results := [.lit (.bool false)], args := [d1, d2, d3] }
  | _ => none }
def BookCheapestWrongFalsely : Prop := bookCheapestRow.holds Tryd.pinned (OpenSpec.ofChange bookCheapestWrong)

/-- 'wishbooklaw01.BookFoot': WHATEVER THE INPUT: true; the input reads as it did. -/
def bookFootSpec : ChangeSpec := { name := "bookFoot", fn := fun _ => fun
  | [d1, d2, d3] => { results := [.lit (.bool true)], args := [d1, d2, d3] }
  | _ => none }
def bookFootRow : OpenClaim := { program := "ytaihkflmkopliaadoor", sum := "d718e64656d1696ab4721b81d6d16de6e11fafde52b248a23a980415a0d745a0", func := "wishbook/wishbooklaw01.BookFoot", spec := "bookFoot", unfollowed := true, recurses := true, named := ["wishbook/book.kinds"], plainKeys := false, apart := false, laid := [("wishbook/book.kinds", laid_wishbook_book_kinds)] }
def BookFootSaid : Prop := bookFootRow.holds Tryd.pinned (OpenSpec.ofChange bookFootSpec)

/-- ITS FALSE NEIGHBOUR: 'it returns false'. Refute it at one input. -/
def bookFootWrong : ChangeSpec := { name := "bookFoot", fn := fun _ => fun
  | [d1, d2, d3] => { results := [.lit (.bool false)], args := [d1, d2, d3] }
  | _ => none }
def BookFootWrongFalsely : Prop := bookFootRow.holds Tryd.pinned (OpenSpec.ofChange bookFootWrong)

/-- 'wishbooklaw01.BookKnown': WHATEVER THE INPUT: true; the input reads as it did. -/
def bookKnownSpec : ChangeSpec := { name := "bookKnown", fn := fun _ => fun
  | [] => { results := [.lit (.bool true)], args := [] }
  | _ => none }
def bookKnownRow : OpenClaim := { program := "ytaihkflmkopliaadoor", sum := "d718e64656d1696ab4721b81d6d16de6e11fafde52b248a23a980415a0d745a0", func := "wishbook/wishbooklaw01.BookKnown", spec := "bookKnown", unfollowed := true, recurses := true, named := ["wishbook/book.kinds"], plainKeys := false, apart := false, laid := [("wishbook/book.kinds", laid_wishbook_book_kinds)] }
def BookKnownSaid : Prop := bookKnownRow.holds Tryd.pinned (OpenSpec.ofChange bookKnownSpec)

/-- ITS FALSE NEIGHBOUR: 'it returns false'. Refute it at one input. -/
def bookKnownWrong : ChangeSpec := { name := "bookKnown", fn := fun _ => fun
  | [] => { results := [.lit (.bool false)], args := [] }
  | _ => none }
def BookKnownWrongFalsely : Prop := bookKnownRow.holds Tryd.pinned (OpenSpec.ofChange bookKnownWrong)

/- THE SECOND FORM. 'bulk': how many values and letters a reading holds, each counted each time it is reached (what is shared counts as often as it is met; a slice's spare places count too). A statement '..UptoSaid' is the law's where the arguments, and the package variables that the reading takes, are together of bulk at most 1048576: NARROWER than '..Said'. Prove '..Said' where nothing that the law and all that it calls make is longer than what came in: it says more and counts as full. Else prove '..UptoSaid'. A law counts once. -/
mutual
def uptoBulk {H : Type} : DataW H → Nat
  | .lit (.string bytes) => bytes.length + 1
  | .lit _ => 1
  | .nil => 1
  | .ptr d => uptoBulk d + 1
  | .slice elems spare => uptoBulkAll elems + uptoBulkAll spare + 1
  | .agg parts => uptoBulkAll parts + 1
  | .iface _ d => uptoBulk d + 1
  | .map entries => uptoBulkEntries entries + 1
  | .held _ => 1
def uptoBulkAll {H : Type} : List (DataW H) → Nat
  | [] => 0
  | d :: r => uptoBulk d + uptoBulkAll r
def uptoBulkEntries {H : Type} : List (Lit × DataW H) → Nat
  | [] => 0
  | x :: r => uptoBulkEntry x + uptoBulkEntries r
def uptoBulkEntry {H : Type} : Lit × DataW H → Nat
  | (.string bytes, d) => bytes.length + uptoBulk d + 1
  | (_, d) => uptoBulk d + 1
 end
def uptoSmall : (H : Type) → List (DataW H) → Bool := fun _ ds => decide (uptoBulkAll ds ≤ 1048576)
def OpenSpec.upto (s : _root_.Go.ChangeSpec) : _root_.Go.OpenSpec := { _root_.Go.OpenSpec.ofChange s with cond := some uptoSmall }

/-- 'wishbooklaw01.BookNumbers', WHERE WHAT IT READS IS OF BULK AT MOST 1048576: true; the input reads as it did. -/
def bookNumbersUptoRow : OpenClaim := { program := "ytaihkflmkopliaadoor", sum := "d718e64656d1696ab4721b81d6d16de6e11fafde52b248a23a980415a0d745a0", func := "wishbook/wishbooklaw01.BookNumbers", spec := "bookNumbers", unfollowed := true, recurses := true, named := ["wishbook/book.kinds"], plainKeys := false, apart := false, laid := [("wishbook/book.kinds", laid_wishbook_book_kinds)], narrowed := true }
def BookNumbersUptoSaid : Prop := bookNumbersUptoRow.holds Tryd.pinned (OpenSpec.upto bookNumbersSpec)

/-- 'wishbooklaw01.BookPrices', WHERE WHAT IT READS IS OF BULK AT MOST 1048576: true; the input reads as it did. -/
def bookPricesUptoRow : OpenClaim := { program := "ytaihkflmkopliaadoor", sum := "d718e64656d1696ab4721b81d6d16de6e11fafde52b248a23a980415a0d745a0", func := "wishbook/wishbooklaw01.BookPrices", spec := "bookPrices", unfollowed := true, recurses := true, named := ["wishbook/book.kinds"], plainKeys := false, apart := false, laid := [("wishbook/book.kinds", laid_wishbook_book_kinds)], narrowed := true }
def BookPricesUptoSaid : Prop := bookPricesUptoRow.holds Tryd.pinned (OpenSpec.upto bookPricesSpec)

/-- 'wishbooklaw01.BookSums', WHERE WHAT IT READS IS OF BULK AT MOST 1048576: true; the input reads as it did. -/
def bookSumsUptoRow : OpenClaim := { program := "ytaihkflmkopliaadoor", sum := "d718e64656d1696ab4721b81d6d16de6e11fafde52b248a23a980415a0d745a0", func := "wishbook/wishbooklaw01.BookSums", spec := "bookSums", unfollowed := true, recurses := true, named := ["wishbook/book.kinds"], plainKeys := false, apart := false, laid := [("wishbook/book.kinds", laid_wishbook_book_kinds)], narrowed := true }
def BookSumsUptoSaid : Prop := bookSumsUptoRow.holds Tryd.pinned (OpenSpec.upto bookSumsSpec)

/-- 'wishbooklaw01.BookFits', WHERE WHAT IT READS IS OF BULK AT MOST 1048576: true; the input reads as it did. -/
def bookFitsUptoRow : OpenClaim := { program := "ytaihkflmkopliaadoor", sum := "d718e64656d1696ab4721b81d6d16de6e11fafde52b248a23a980415a0d745a0", func := "wishbook/wishbooklaw01.BookFits", spec := "bookFits", unfollowed := true, recurses := true, named := ["wishbook/book.kinds"], plainKeys := false, apart := false, laid := [("wishbook/book.kinds", laid_wishbook_book_kinds)], narrowed := true }
def BookFitsUptoSaid : Prop := bookFitsUptoRow.holds Tryd.pinned (OpenSpec.upto bookFitsSpec)

/-- 'wishbooklaw01.BookMeant', WHERE WHAT IT READS IS OF BULK AT MOST 1048576: true; the input reads as it did. -/
def bookMeantUptoRow : OpenClaim := { program := "ytaihkflmkopliaadoor", sum := "d718e64656d1696ab4721b81d6d16de6e11fafde52b248a23a980415a0d745a0", func := "wishbook/wishbooklaw01.BookMeant", spec := "bookMeant", unfollowed := true, recurses := true, named := ["wishbook/book.kinds"], plainKeys := false, apart := false, laid := [("wishbook/book.kinds", laid_wishbook_book_kinds)], narrowed := true }
def BookMeantUptoSaid : Prop := bookMeantUptoRow.holds Tryd.pinned (OpenSpec.upto bookMeantSpec)

/-- 'wishbooklaw01.BookBack', WHERE WHAT IT READS IS OF BULK AT MOST 1048576: true; the input reads as it did. -/
def bookBackUptoRow : OpenClaim := { program := "ytaihkflmkopliaadoor", sum := "d718e64656d1696ab4721b81d6d16de6e11fafde52b248a23a980415a0d745a0", func := "wishbook/wishbooklaw01.BookBack", spec := "bookBack", unfollowed := true, recurses := true, named := ["wishbook/book.kinds"], plainKeys := false, apart := false, laid := [("wishbook/book.kinds", laid_wishbook_book_kinds)], narrowed := true }
def BookBackUptoSaid : Prop := bookBackUptoRow.holds Tryd.pinned (OpenSpec.upto bookBackSpec)

/-- 'wishbooklaw01.BookTwins', WHERE WHAT IT READS IS OF BULK AT MOST 1048576: true; the input reads as it did. -/
def bookTwinsUptoRow : OpenClaim := { program := "ytaihkflmkopliaadoor", sum := "d718e64656d1696ab4721b81d6d16de6e11fafde52b248a23a980415a0d745a0", func := "wishbook/wishbooklaw01.BookTwins", spec := "bookTwins", unfollowed := true, recurses := true, named := ["wishbook/book.kinds"], plainKeys := false, apart := false, laid := [("wishbook/book.kinds", laid_wishbook_book_kinds)], narrowed := true }
def BookTwinsUptoSaid : Prop := bookTwinsUptoRow.holds Tryd.pinned (OpenSpec.upto bookTwinsSpec)

/-- 'wishbooklaw01.BookKept', WHERE WHAT IT READS IS OF BULK AT MOST 1048576: true; the input reads as it did. -/
def bookKeptUptoRow : OpenClaim := { program := "ytaihkflmkopliaadoor", sum := "d718e64656d1696ab4721b81d6d16de6e11fafde52b248a23a980415a0d745a0", func := "wishbook/wishbooklaw01.BookKept", spec := "bookKept", unfollowed := true, recurses := true, named := ["wishbook/book.kinds"], plainKeys := false, apart := false, laid := [("wishbook/book.kinds", laid_wishbook_book_kinds)], narrowed := true }
def BookKeptUptoSaid : Prop := bookKeptUptoRow.holds Tryd.pinned (OpenSpec.upto bookKeptSpec)

/-- 'wishbooklaw01.BookMore', WHERE WHAT IT READS IS OF BULK AT MOST 1048576: true; the input reads as it did. -/
def bookMoreUptoRow : OpenClaim := { program := "ytaihkflmkopliaadoor", sum := "d718e64656d1696ab4721b81d6d16de6e11fafde52b248a23a980415a0d745a0", func := "wishbook/wishbooklaw01.BookMore", spec := "bookMore", unfollowed := true, recurses := true, named := ["wishbook/book.kinds"], plainKeys := false, apart := false, laid := [("wishbook/book.kinds", laid_wishbook_book_kinds)], narrowed := true }
def BookMoreUptoSaid : Prop := bookMoreUptoRow.holds Tryd.pinned (OpenSpec.upto bookMoreSpec)

/-- 'wishbooklaw01.BookDays', WHERE WHAT IT READS IS OF BULK AT MOST 1048576: true; the input reads as it did. -/
def bookDaysUptoRow : OpenClaim := { program := "ytaihkflmkopliaadoor", sum := "d718e64656d1696ab4721b81d6d16de6e11fafde52b248a23a980415a0d745a0", func := "wishbook/wishbooklaw01.BookDays", spec := "bookDays", unfollowed := true, recurses := true, named := ["wishbook/book.kinds"], plainKeys := false, apart := false, laid := [("wishbook/book.kinds", laid_wishbook_book_kinds)], narrowed := true }
def BookDaysUptoSaid : Prop := bookDaysUptoRow.holds Tryd.pinned (OpenSpec.upto bookDaysSpec)

/-- 'wishbooklaw01.BookAdded', WHERE WHAT IT READS IS OF BULK AT MOST 1048576: true; the input reads as it did. -/
def bookAddedUptoRow : OpenClaim := { program := "ytaihkflmkopliaadoor", sum := "d718e64656d1696ab4721b81d6d16de6e11fafde52b248a23a980415a0d745a0", func := "wishbook/wishbooklaw01.BookAdded", spec := "bookAdded", unfollowed := true, recurses := true, named := ["wishbook/book.kinds"], plainKeys := false, apart := false, laid := [("wishbook/book.kinds", laid_wishbook_book_kinds)], narrowed := true }
def BookAddedUptoSaid : Prop := bookAddedUptoRow.holds Tryd.pinned (OpenSpec.upto bookAddedSpec)

/-- 'wishbooklaw01.BookCheapest', WHERE WHAT IT READS IS OF BULK AT MOST 1048576: true; the input reads as it did. -/
def bookCheapestUptoRow : OpenClaim := { program := "ytaihkflmkopliaadoor", sum := "d718e64656d1696ab4721b81d6d16de6e11fafde52b248a23a980415a0d745a0", func := "wishbook/wishbooklaw01.BookCheapest", spec := "bookCheapest", unfollowed := true, recurses := true, named := ["wishbook/book.kinds"], plainKeys := false, apart := false, laid := [("wishbook/book.kinds", laid_wishbook_book_kinds)], narrowed := true }
def BookCheapestUptoSaid : Prop := bookCheapestUptoRow.holds Tryd.pinned (OpenSpec.upto bookCheapestSpec)

/-- 'wishbooklaw01.BookFoot', WHERE WHAT IT READS IS OF BULK AT MOST 1048576: true; the input reads as it did. -/
def bookFootUptoRow : OpenClaim := { program := "ytaihkflmkopliaadoor", sum := "d718e64656d1696ab4721b81d6d16de6e11fafde52b248a23a980415a0d745a0", func := "wishbook/wishbooklaw01.BookFoot", spec := "bookFoot", unfollowed := true, recurses := true, named := ["wishbook/book.kinds"], plainKeys := false, apart := false, laid := [("wishbook/book.kinds", laid_wishbook_book_kinds)], narrowed := true }
def BookFootUptoSaid : Prop := bookFootUptoRow.holds Tryd.pinned (OpenSpec.upto bookFootSpec)

/-- 'wishbooklaw01.BookKnown', WHERE WHAT IT READS IS OF BULK AT MOST 1048576: true; the input reads as it did. -/
def bookKnownUptoRow : OpenClaim := { program := "ytaihkflmkopliaadoor", sum := "d718e64656d1696ab4721b81d6d16de6e11fafde52b248a23a980415a0d745a0", func := "wishbook/wishbooklaw01.BookKnown", spec := "bookKnown", unfollowed := true, recurses := true, named := ["wishbook/book.kinds"], plainKeys := false, apart := false, laid := [("wishbook/book.kinds", laid_wishbook_book_kinds)], narrowed := true }
def BookKnownUptoSaid : Prop := bookKnownUptoRow.holds Tryd.pinned (OpenSpec.upto bookKnownSpec)

end Rows
end Go.Proofs.YtaihkflmkopliaaDoor
