/-
  NARROWER THAN 'FOR EVERY INPUT', by the rows' own cells (each row's printed sentence says how): ParcelPosts: laid · ParcelCheaps: laid · ParcelStamps: laid · ParcelSends: laid · ParcelOnce: laid · ParcelBig: laid · ParcelMore: laid · ParcelEasier: laid · ParcelStamp: laid · ParcelSend: laid · ParcelKnown: laid.
  DERIVED. THE GIVEN ROWS OF THIS SEAT. 11 by the template 'for every input the law returns true; each argument reads behind the call as it read before'; 0 by the template 'total and deterministic' (their statements: YtjdljckgphbkmaaDoorTotals.lean).
  GIVEN WITH THE SEED: the statements are not yours to turn. If you find one false, say at which input.
  Laid BY PROGRAM, IN A SANDBOX (cutbox-rows.mjs): the forced cells as the released guide's own fill.sh prints them over the translation dd504ae0bf804fa3… (all of the seat's roots in one cut). By AI agents, Wed Nov 11 2026. No macro, syntax, notation, axiom, sorry.
-/
import Derived.Test.YtjdljckgphbkmaaDoorChecked
import GoSem.Claim
import GoSem.ClaimJoined
import GoSem.ClaimMapViews
import Derived.JoinedTies
import Derived.KernelRfl
namespace Go.Proofs.YtjdljckgphbkmaaDoor
/- THE CELL 'sum', in the pinned program and in every row, IS THE sha256 OF THE DUMP (.gsa) THAT YtjdljckgphbkmaaDoorProg.lean LOADS. Nothing in Lean hashes anything: it is a label: what it is worth is what the hold of that sum in a sandbox is worth. -/
noncomputable def Tryd.pinned : Pinned := { name := "ytjdljckgphbkmaadoor", sum := "dd504ae0bf804fa3f4f685da783266971fbf39572c7cf186c6c5ee38cc3453a9", checked := Tryd.checked }
namespace Rows
def none {H : Type} : Left H := { results := [], args := [] }

/- WHAT THE LISTED PACKAGE-LEVEL VARIABLES READ AS WHEN THE CALL BEGINS. Each datum BY PROGRAM (the guide's laid-datum.mjs) off the statement by which the dump's own 'gosem.cut.vars' lays the variable. In a bare row this is a premise. The card (YtjdljckgphbkmaaDoorCards.lean) ties it to the program's text. -/
def laid_wishbook_parcel_parts {H : Type} : DataW H := .iface "func table" (.agg [.iface "func" (.lit (.string [40, 119, 105, 115, 104, 98, 111, 111, 107, 47, 112, 97, 114, 99, 101, 108, 46, 98, 111, 111, 107, 41, 46, 112, 114, 105, 99, 101])), .iface "func" (.lit (.string [40, 119, 105, 115, 104, 98, 111, 111, 107, 47, 112, 97, 114, 99, 101, 108, 46, 98, 111, 111, 107, 41, 46, 115, 116, 101, 112, 115])), .iface "func" (.lit (.string [40, 119, 105, 115, 104, 98, 111, 111, 107, 47, 112, 97, 114, 99, 101, 108, 46, 98, 111, 111, 107, 41, 46, 105, 110, 115, 117, 114, 97, 110, 99, 101]))])

/-- 'wishbooklaw06.ParcelPosts': WHATEVER THE INPUT: true; the input reads as it did. -/
def parcelPostsSpec : ChangeSpec := { name := "parcelPosts", fn := fun _ => fun
  | [d1, d2, d3] => { results := [.lit (.bool true)], args := [d1, d2, d3] }
  | _ => none }
def parcelPostsRow : OpenClaim := { program := "ytjdljckgphbkmaadoor", sum := "dd504ae0bf804fa3f4f685da783266971fbf39572c7cf186c6c5ee38cc3453a9", func := "wishbook/wishbooklaw06.ParcelPosts", spec := "parcelPosts", unfollowed := true, recurses := true, named := ["wishbook/parcel.parts"], plainKeys := false, apart := false, laid := [("wishbook/parcel.parts", laid_wishbook_parcel_parts)] }
def ParcelPostsSaid : Prop := parcelPostsRow.holds Tryd.pinned (OpenSpec.ofChange parcelPostsSpec)

/-- ITS FALSE NEIGHBOUR: 'it returns false'. Refute it at one input. -/
def parcelPostsWrong : ChangeSpec := { name := "parcelPosts", fn := fun _ => fun
  | [d1, d2, d3] => { results := [.lit (.bool false)], args := [d1, d2, d3] }
  | _ => none }
def ParcelPostsWrongFalsely : Prop := parcelPostsRow.holds Tryd.pinned (OpenSpec.ofChange parcelPostsWrong)

/-- 'wishbooklaw06.ParcelCheaps': WHATEVER THE INPUT: true; the input reads as it did. -/
def parcelCheapsSpec : ChangeSpec := { name := "parcelCheaps", fn := fun _ => fun
  | [d1, d2, d3] => { results := [.lit (.bool true)], args := [d1, d2, d3] }
  | _ => none }
def parcelCheapsRow : OpenClaim := { program := "ytjdljckgphbkmaadoor", sum := "dd504ae0bf804fa3f4f685da783266971fbf39572c7cf186c6c5ee38cc3453a9", func := "wishbook/wishbooklaw06.ParcelCheaps", spec := "parcelCheaps", unfollowed := true, recurses := true, named := ["wishbook/parcel.parts"], plainKeys := false, apart := false, laid := [("wishbook/parcel.parts", laid_wishbook_parcel_parts)] }
def ParcelCheapsSaid : Prop := parcelCheapsRow.holds Tryd.pinned (OpenSpec.ofChange parcelCheapsSpec)

/-- ITS FALSE NEIGHBOUR: 'it returns false'. Refute it at one input. -/
def parcelCheapsWrong : ChangeSpec := { name := "parcelCheaps", fn := fun _ => fun
  | [d1, d2, d3] => { results := [.lit (.bool false)], args := [d1, d2, d3] }
  | _ => none }
def ParcelCheapsWrongFalsely : Prop := parcelCheapsRow.holds Tryd.pinned (OpenSpec.ofChange parcelCheapsWrong)

/-- 'wishbooklaw06.ParcelStamps': WHATEVER THE INPUT: true; the input reads as it did. -/
def parcelStampsSpec : ChangeSpec := { name := "parcelStamps", fn := fun _ => fun
  | [d1, d2] => { results := [.lit (.bool true)], args := [d1, d2] }
  | _ => none }
def parcelStampsRow : OpenClaim := { program := "ytjdljckgphbkmaadoor", sum := "dd504ae0bf804fa3f4f685da783266971fbf39572c7cf186c6c5ee38cc3453a9", func := "wishbook/wishbooklaw06.ParcelStamps", spec := "parcelStamps", unfollowed := true, recurses := true, named := ["wishbook/parcel.parts"], plainKeys := false, apart := false, laid := [("wishbook/parcel.parts", laid_wishbook_parcel_parts)] }
def ParcelStampsSaid : Prop := parcelStampsRow.holds Tryd.pinned (OpenSpec.ofChange parcelStampsSpec)

/-- ITS FALSE NEIGHBOUR: 'it returns false'. Refute it at one input. -/
def parcelStampsWrong : ChangeSpec := { name := "parcelStamps", fn := fun _ => fun
  | [d1, d2] => { results := [.lit (.bool false)], args := [d1, d2] }
  | _ => none }
def ParcelStampsWrongFalsely : Prop := parcelStampsRow.holds Tryd.pinned (OpenSpec.ofChange parcelStampsWrong)

/-- 'wishbooklaw06.ParcelSends': WHATEVER THE INPUT: true; the input reads as it did. -/
def parcelSendsSpec : ChangeSpec := { name := "parcelSends", fn := fun _ => fun
  | [d1, d2, d3] => { results := [.lit (.bool true)], args := [d1, d2, d3] }
  | _ => none }
def parcelSendsRow : OpenClaim := { program := "ytjdljckgphbkmaadoor", sum := "dd504ae0bf804fa3f4f685da783266971fbf39572c7cf186c6c5ee38cc3453a9", func := "wishbook/wishbooklaw06.ParcelSends", spec := "parcelSends", unfollowed := true, recurses := true, named := ["wishbook/parcel.parts"], plainKeys := false, apart := false, laid := [("wishbook/parcel.parts", laid_wishbook_parcel_parts)] }
def ParcelSendsSaid : Prop := parcelSendsRow.holds Tryd.pinned (OpenSpec.ofChange parcelSendsSpec)

/-- ITS FALSE NEIGHBOUR: 'it returns false'. Refute it at one input. -/
def parcelSendsWrong : ChangeSpec := { name := "parcelSends", fn := fun _ => fun
  | [d1, d2, d3] => { results := [.lit (.bool false)], args := [d1, d2, d3] }
  | _ => none }
def ParcelSendsWrongFalsely : Prop := parcelSendsRow.holds Tryd.pinned (OpenSpec.ofChange parcelSendsWrong)

/-- 'wishbooklaw06.ParcelOnce': WHATEVER THE INPUT: true; the input reads as it did. -/
def parcelOnceSpec : ChangeSpec := { name := "parcelOnce", fn := fun _ => fun
  | [d1, d2, d3] => { results := [.lit (.bool true)], args := [d1, d2, d3] }
  | _ => none }
def parcelOnceRow : OpenClaim := { program := "ytjdljckgphbkmaadoor", sum := "dd504ae0bf804fa3f4f685da783266971fbf39572c7cf186c6c5ee38cc3453a9", func := "wishbook/wishbooklaw06.ParcelOnce", spec := "parcelOnce", unfollowed := true, recurses := true, named := ["wishbook/parcel.parts"], plainKeys := false, apart := false, laid := [("wishbook/parcel.parts", laid_wishbook_parcel_parts)] }
def ParcelOnceSaid : Prop := parcelOnceRow.holds Tryd.pinned (OpenSpec.ofChange parcelOnceSpec)

/-- ITS FALSE NEIGHBOUR: 'it returns false'. Refute it at one input. -/
def parcelOnceWrong : ChangeSpec := { name := "parcelOnce", fn := fun _ => fun
  | [d1, d2, d3] => { results := [.lit (.bool false)], args := [d1, d2, d3] }
  | _ => none }
def ParcelOnceWrongFalsely : Prop := parcelOnceRow.holds Tryd.pinned (OpenSpec.ofChange parcelOnceWrong)

/-- 'wishbooklaw06.ParcelBig': WHATEVER THE INPUT: true; the input reads as it did. -/
def parcelBigSpec : ChangeSpec := { name := "parcelBig", fn := fun _ => fun
  | [d1, d2] => { results := [.lit (.bool true)], args := [d1, d2] }
  | _ => none }
def parcelBigRow : OpenClaim := { program := "ytjdljckgphbkmaadoor", sum := "dd504ae0bf804fa3f4f685da783266971fbf39572c7cf186c6c5ee38cc3453a9", func := "wishbook/wishbooklaw06.ParcelBig", spec := "parcelBig", unfollowed := true, recurses := true, named := ["wishbook/parcel.parts"], plainKeys := false, apart := false, laid := [("wishbook/parcel.parts", laid_wishbook_parcel_parts)] }
def ParcelBigSaid : Prop := parcelBigRow.holds Tryd.pinned (OpenSpec.ofChange parcelBigSpec)

/-- ITS FALSE NEIGHBOUR: 'it returns false'. Refute it at one input. -/
def parcelBigWrong : ChangeSpec := { name := "parcelBig", fn := fun _ => fun
  | [d1, d2] => { results := [.lit (.bool false)], args := [d1, d2] }
  | _ => none }
def ParcelBigWrongFalsely : Prop := parcelBigRow.holds Tryd.pinned (OpenSpec.ofChange parcelBigWrong)

/-- 'wishbooklaw06.ParcelMore': WHATEVER THE INPUT: true; the input reads as it did. -/
def parcelMoreSpec : ChangeSpec := { name := "parcelMore", fn := fun _ => fun
  | [d1, d2] => { results := [.lit (.bool true)], args := [d1, d2] }
  | _ => none }
def parcelMoreRow : OpenClaim := { program := "ytjdljckgphbkmaadoor", sum := "dd504ae0bf804fa3f4f685da783266971fbf39572c7cf186c6c5ee38cc3453a9", func := "wishbook/wishbooklaw06.ParcelMore", spec := "parcelMore", unfollowed := true, recurses := true, named := ["wishbook/parcel.parts"], plainKeys := false, apart := false, laid := [("wishbook/parcel.parts", laid_wishbook_parcel_parts)] }
def ParcelMoreSaid : Prop := parcelMoreRow.holds Tryd.pinned (OpenSpec.ofChange parcelMoreSpec)

/-- ITS FALSE NEIGHBOUR: 'it returns false'. Refute it at one input. -/
def parcelMoreWrong : ChangeSpec := { name := "parcelMore", fn := fun _ => fun
  | [d1, d2] => { results := [.lit (.bool false)], args := [d1, d2] }
  | _ => none }
def ParcelMoreWrongFalsely : Prop := parcelMoreRow.holds Tryd.pinned (OpenSpec.ofChange parcelMoreWrong)

/-- 'wishbooklaw06.ParcelEasier': WHATEVER THE INPUT: true; the input reads as it did. -/
def parcelEasierSpec : ChangeSpec := { name := "parcelEasier", fn := fun _ => fun
  | [d1, d2] => { results := [.lit (.bool true)], args := [d1, d2] }
  | _ => none }
def parcelEasierRow : OpenClaim := { program := "ytjdljckgphbkmaadoor", sum := "dd504ae0bf804fa3f4f685da783266971fbf39572c7cf186c6c5ee38cc3453a9", func := "wishbook/wishbooklaw06.ParcelEasier", spec := "parcelEasier", unfollowed := true, recurses := true, named := ["wishbook/parcel.parts"], plainKeys := false, apart := false, laid := [("wishbook/parcel.parts", laid_wishbook_parcel_parts)] }
def ParcelEasierSaid : Prop := parcelEasierRow.holds Tryd.pinned (OpenSpec.ofChange parcelEasierSpec)

/-- ITS FALSE NEIGHBOUR: 'it returns false'. Refute it at one input. -/
def parcelEasierWrong : ChangeSpec := { name := "parcelEasier", fn := fun _ => fun
  | [d1, d2] => { results := [.lit (.bool false)], args := [d1, d2] }
  | _ => none }
def ParcelEasierWrongFalsely : Prop := parcelEasierRow.holds Tryd.pinned (OpenSpec.ofChange parcelEasierWrong)

/-- 'wishbooklaw06.ParcelStamp': WHATEVER THE INPUT: true; the input reads as it did. -/
def parcelStampSpec : ChangeSpec := { name := "parcelStamp", fn := fun _ => fun
  | [d1, d2, d3] => { results := [.lit (.bool true)], args := [d1, d2, d3] }
  | _ => none }
def parcelStampRow : OpenClaim := { program := "ytjdljckgphbkmaadoor", sum := "dd504ae0bf804fa3f4f685da783266971fbf39572c7cf186c6c5ee38cc3453a9", func := "wishbook/wishbooklaw06.ParcelStamp", spec := "parcelStamp", unfollowed := true, recurses := true, named := ["wishbook/parcel.parts"], plainKeys := false, apart := false, laid := [("wishbook/parcel.parts", laid_wishbook_parcel_parts)] }
def ParcelStampSaid : Prop := parcelStampRow.holds Tryd.pinned (OpenSpec.ofChange parcelStampSpec)

/-- ITS FALSE NEIGHBOUR: 'it returns false'. Refute it at one input. -/
def parcelStampWrong : ChangeSpec := { name := "parcelStamp", fn := fun _ => fun
  | [d1, d2, d3] => { results := [.lit (.bool false)], args := [d1, d2, d3] }
  | _ => none }
def ParcelStampWrongFalsely : Prop := parcelStampRow.holds Tryd.pinned (OpenSpec.ofChange parcelStampWrong)

/-- 'wishbooklaw06.ParcelSend': WHATEVER THE INPUT: true; the input reads as it did. -/
def parcelSendSpec : ChangeSpec := { name := "parcelSend", fn := fun _ => fun
  | [d1, d2] => { results := [.lit (.bool true)], args := [d1, d2] }
  | _ => none }
def parcelSendRow : OpenClaim := { program := "ytjdljckgphbkmaadoor", sum := "dd504ae0bf804fa3f4f685da783266971fbf39572c7cf186c6c5ee38cc3453a9", func := "wishbook/wishbooklaw06.ParcelSend", spec := "parcelSend", unfollowed := true, recurses := true, named := ["wishbook/parcel.parts"], plainKeys := false, apart := false, laid := [("wishbook/parcel.parts", laid_wishbook_parcel_parts)] }
def ParcelSendSaid : Prop := parcelSendRow.holds Tryd.pinned (OpenSpec.ofChange parcelSendSpec)

/-- ITS FALSE NEIGHBOUR: 'it returns false'. Refute it at one input. -/
def parcelSendWrong : ChangeSpec := { name := "parcelSend", fn := fun _ => fun
  | [d1, d2] => { results := [.lit (.bool false)], args := [d1, d2] }
  | _ => none }
def ParcelSendWrongFalsely : Prop := parcelSendRow.holds Tryd.pinned (OpenSpec.ofChange parcelSendWrong)

/-- 'wishbooklaw06.ParcelKnown': WHATEVER THE INPUT: true; the input reads as it did. -/
def parcelKnownSpec : ChangeSpec := { name := "parcelKnown", fn := fun _ => fun
  | [] => { results := [.lit (.bool true)], args := [] }
  | _ => none }
def parcelKnownRow : OpenClaim := { program := "ytjdljckgphbkmaadoor", sum := "dd504ae0bf804fa3f4f685da783266971fbf39572c7cf186c6c5ee38cc3453a9", func := "wishbook/wishbooklaw06.ParcelKnown", spec := "parcelKnown", unfollowed := true, recurses := true, named := ["wishbook/parcel.parts"], plainKeys := false, apart := false, laid := [("wishbook/parcel.parts", laid_wishbook_parcel_parts)] }
def ParcelKnownSaid : Prop := parcelKnownRow.holds Tryd.pinned (OpenSpec.ofChange parcelKnownSpec)

/-- ITS FALSE NEIGHBOUR: 'it returns false'. Refute it at one input. -/
def parcelKnownWrong : ChangeSpec := { name := "parcelKnown", fn := fun _ => fun
  | [] => { results := [.lit (.bool false)], args := [] }
  | _ => none }
def ParcelKnownWrongFalsely : Prop := parcelKnownRow.holds Tryd.pinned (OpenSpec.ofChange parcelKnownWrong)

/- THE SECOND FORM. 'bulk': how many values and letters a reading holds, each counted each time it is reached (what is shared counts as often as it is met; a slice's spare places count too). A statement '..UptoSaid' is the law's where the arguments, and the package variables that the reading takes, are together of bulk at most 1048576: NARROWER than '..Said'. Prove '..Said' where nothing that the law and all that it calls make is longer than what came in: it says more and counts as full. Else prove '..UptoSaid'. A law counts once. -/
mutual
def uptoBulk {H : Type} : DataW H → Nat
  | .lit (.string bytes) => bytes.length + 1
  | .lit _ => 1
  | .nil => 1
  | .ptr d => uptoBulk d + 1
  | .slice elems spare => uptoBulkAll elems + uptoBulkAll spare + 1
  | .agg parts => uptoBulkAll parts + 1
  | .iface _ d => uptoBulk d + 1
  | .map entries => uptoBulkEntries entries + 1
  | .held _ => 1
def uptoBulkAll {H : Type} : List (DataW H) → Nat
  | [] => 0
  | d :: r => uptoBulk d + uptoBulkAll r
def uptoBulkEntries {H : Type} : List (Lit × DataW H) → Nat
  | [] => 0
  | x :: r => uptoBulkEntry x + uptoBulkEntries r
def uptoBulkEntry {H : Type} : Lit × DataW H → Nat
  | (.string bytes, d) => bytes.length + uptoBulk d + 1
  | (_, d) => uptoBulk d + 1
 end
def uptoSmall : (H : Type) → List (DataW H) → Bool := fun _ ds => decide (uptoBulkAll ds ≤ 1048576)
def OpenSpec.upto (s : _root_.Go.ChangeSpec) : _root_.Go.OpenSpec := { _root_.Go.OpenSpec.ofChange s with cond := some uptoSmall }

/-- 'wishbooklaw06.ParcelPosts', WHERE WHAT IT READS IS OF BULK AT MOST 1048576: true; the input reads as it did. -/
def parcelPostsUptoRow : OpenClaim := { program := "ytjdljckgphbkmaadoor", sum := "dd504ae0bf804fa3f4f685da783266971fbf39572c7cf186c6c5ee38cc3453a9", func := "wishbook/wishbooklaw06.ParcelPosts", spec := "parcelPosts", unfollowed := true, recurses := true, named := ["wishbook/parcel.parts"], plainKeys := false, apart := false, laid := [("wishbook/parcel.parts", laid_wishbook_parcel_parts)], narrowed := true }
def ParcelPostsUptoSaid : Prop := parcelPostsUptoRow.holds Tryd.pinned (OpenSpec.upto parcelPostsSpec)

/-- 'wishbooklaw06.ParcelCheaps', WHERE WHAT IT READS IS OF BULK AT MOST 1048576: true; the input reads as it did. -/
def parcelCheapsUptoRow : OpenClaim := { program := "ytjdljckgphbkmaadoor", sum := "dd504ae0bf804fa3f4f685da783266971fbf39572c7cf186c6c5ee38cc3453a9", func := "wishbook/wishbooklaw06.ParcelCheaps", spec := "parcelCheaps", unfollowed := true, recurses := true, named := ["wishbook/parcel.parts"], plainKeys := false, apart := false, laid := [("wishbook/parcel.parts", laid_wishbook_parcel_parts)], narrowed := true }
def ParcelCheapsUptoSaid : Prop := parcelCheapsUptoRow.holds Tryd.pinned (OpenSpec.upto parcelCheapsSpec)

/-- 'wishbooklaw06.ParcelStamps', WHERE WHAT IT READS IS OF BULK AT MOST 1048576: true; the input reads as it did. -/
def parcelStampsUptoRow : OpenClaim := { program := "ytjdljckgphbkmaadoor", sum := "dd504ae0bf804fa3f4f685da783266971fbf39572c7cf186c6c5ee38cc3453a9", func := "wishbook/wishbooklaw06.ParcelStamps", spec := "parcelStamps", unfollowed := true, recurses := true, named := ["wishbook/parcel.parts"], plainKeys := false, apart := false, laid := [("wishbook/parcel.parts", laid_wishbook_parcel_parts)], narrowed := true }
def ParcelStampsUptoSaid : Prop := parcelStampsUptoRow.holds Tryd.pinned (OpenSpec.upto parcelStampsSpec)

/-- 'wishbooklaw06.ParcelSends', WHERE WHAT IT READS IS OF BULK AT MOST 1048576: true; the input reads as it did. -/
def parcelSendsUptoRow : OpenClaim := { program := "ytjdljckgphbkmaadoor", sum := "dd504ae0bf804fa3f4f685da783266971fbf39572c7cf186c6c5ee38cc3453a9", func := "wishbook/wishbooklaw06.ParcelSends", spec := "parcelSends", unfollowed := true, recurses := true, named := ["wishbook/parcel.parts"], plainKeys := false, apart := false, laid := [("wishbook/parcel.parts", laid_wishbook_parcel_parts)], narrowed := true }
def ParcelSendsUptoSaid : Prop := parcelSendsUptoRow.holds Tryd.pinned (OpenSpec.upto parcelSendsSpec)

/-- 'wishbooklaw06.ParcelOnce', WHERE WHAT IT READS IS OF BULK AT MOST 1048576: true; the input reads as it did. -/
def parcelOnceUptoRow : OpenClaim := { program := "ytjdljckgphbkmaadoor", sum := "dd504ae0bf804fa3f4f685da783266971fbf39572c7cf186c6c5ee38cc3453a9", func := "wishbook/wishbooklaw06.ParcelOnce", spec := "parcelOnce", unfollowed := true, recurses := true, named := ["wishbook/parcel.parts"], plainKeys := false, apart := false, laid := [("wishbook/parcel.parts", laid_wishbook_parcel_parts)], narrowed := true }
def ParcelOnceUptoSaid : Prop := parcelOnceUptoRow.holds Tryd.pinned (OpenSpec.upto parcelOnceSpec)

/-- 'wishbooklaw06.ParcelBig', WHERE WHAT IT READS IS OF BULK AT MOST 1048576: true; the input reads as it did. -/
def parcelBigUptoRow : OpenClaim := { program := "ytjdljckgphbkmaadoor", sum := "dd504ae0bf804fa3f4f685da783266971fbf39572c7cf186c6c5ee38cc3453a9", func := "wishbook/wishbooklaw06.ParcelBig", spec := "parcelBig", unfollowed := true, recurses := true, named := ["wishbook/parcel.parts"], plainKeys := false, apart := false, laid := [("wishbook/parcel.parts", laid_wishbook_parcel_parts)], narrowed := true }
def ParcelBigUptoSaid : Prop := parcelBigUptoRow.holds Tryd.pinned (OpenSpec.upto parcelBigSpec)

/-- 'wishbooklaw06.ParcelMore', WHERE WHAT IT READS IS OF BULK AT MOST 1048576: true; the input reads as it did. -/
def parcelMoreUptoRow : OpenClaim := { program := "ytjdljckgphbkmaadoor", sum := "dd504ae0bf804fa3f4f685da783266971fbf39572c7cf186c6c5ee38cc3453a9", func := "wishbook/wishbooklaw06.ParcelMore", spec := "parcelMore", unfollowed := true, recurses := true, named := ["wishbook/parcel.parts"], plainKeys := false, apart := false, laid := [("wishbook/parcel.parts", laid_wishbook_parcel_parts)], narrowed := true }
def ParcelMoreUptoSaid : Prop := parcelMoreUptoRow.holds Tryd.pinned (OpenSpec.upto parcelMoreSpec)

/-- 'wishbooklaw06.ParcelEasier', WHERE WHAT IT READS IS OF BULK AT MOST 1048576: true; the input reads as it did. -/
def parcelEasierUptoRow : OpenClaim := { program := "ytjdljckgphbkmaadoor", sum := "dd504ae0bf804fa3f4f685da783266971fbf39572c7cf186c6c5ee38cc3453a9", func := "wishbook/wishbooklaw06.ParcelEasier", spec := "parcelEasier", unfollowed := true, recurses := true, named := ["wishbook/parcel.parts"], plainKeys := false, apart := false, laid := [("wishbook/parcel.parts", laid_wishbook_parcel_parts)], narrowed := true }
def ParcelEasierUptoSaid : Prop := parcelEasierUptoRow.holds Tryd.pinned (OpenSpec.upto parcelEasierSpec)

/-- 'wishbooklaw06.ParcelStamp', WHERE WHAT IT READS IS OF BULK AT MOST 1048576: true; the input reads as it did. -/
def parcelStampUptoRow : OpenClaim := { program := "ytjdljckgphbkmaadoor", sum := "dd504ae0bf804fa3f4f685da783266971fbf39572c7cf186c6c5ee38cc3453a9", func := "wishbook/wishbooklaw06.ParcelStamp", spec := "parcelStamp", unfollowed := true, recurses := true, named := ["wishbook/parcel.parts"], plainKeys := false, apart := false, laid := [("wishbook/parcel.parts", laid_wishbook_parcel_parts)], narrowed := true }
def ParcelStampUptoSaid : Prop := parcelStampUptoRow.holds Tryd.pinned (OpenSpec.upto parcelStampSpec)

/-- 'wishbooklaw06.ParcelSend', WHERE WHAT IT READS IS OF BULK AT MOST 1048576: true; the input reads as it did. -/
def parcelSendUptoRow : OpenClaim := { program := "ytjdljckgphbkmaadoor", sum := "dd504ae0bf804fa3f4f685da783266971fbf39572c7cf186c6c5ee38cc3453a9", func := "wishbook/wishbooklaw06.ParcelSend", spec := "parcelSend", unfollowed := true, recurses := true, named := ["wishbook/parcel.parts"], plainKeys := false, apart := false, laid := [("wishbook/parcel.parts", laid_wishbook_parcel_parts)], narrowed := true }
def ParcelSendUptoSaid : Prop := parcelSendUptoRow.holds Tryd.pinned (OpenSpec.upto parcelSendSpec)

/-- 'wishbooklaw06.ParcelKnown', WHERE WHAT IT READS IS OF BULK AT MOST 1048576: true; the input reads as it did. -/
def parcelKnownUptoRow : OpenClaim := { program := "ytjdljckgphbkmaadoor", sum := "dd504ae0bf804fa3f4f685da783266971fbf39572c7cf186c6c5ee38cc3453a9", func := "wishbook/wishbooklaw06.ParcelKnown", spec := "parcelKnown", unfollowed := true, recurses := true, named := ["wishbook/parcel.parts"], plainKeys := false, apart := false, laid := [("wishbook/parcel.parts", laid_wishbook_parcel_parts)], narrowed := true }
def ParcelKnownUptoSaid : Prop := parcelKnownUptoRow.holds Tryd.pinned (OpenSpec.upto parcelKnownSpec)

end Rows
end Go.Proofs.YtjdljckgphbkmaaDoor
