/-
  NARROWER THAN 'FOR EVERY INPUT', by the rows' own cells (each row's printed sentence says how): ReplyBooksBelong: laid · ReplyStatesAddUp: laid · ReplyBooksMatchSpec: laid · ReplyAnswersCount: laid · ReplyAnswersMatchSpec: laid · ReplyLaterChangesNothing: laid · ReplyStatesMatchSpec: laid.
  DERIVED. THE GIVEN ROWS OF THIS SEAT. 7 by the template 'for every input the law returns true; each argument reads behind the call as it read before'; 0 by the template 'total and deterministic' (their statements: YtndlhopdhfhjnaaDoorTotals.lean).
  GIVEN WITH THE SEED: the statements are not yours to turn. If you find one false, say at which input.
  Laid BY PROGRAM, IN A SANDBOX (cutbox-rows.mjs): the forced cells as the released guide's own fill.sh prints them over the translation a70181941441ee6e… (all of the seat's roots in one cut). By AI agents, Wed Nov 11 2026. No macro, syntax, notation, axiom, sorry.
-/
import Derived.Test.YtndlhopdhfhjnaaDoorChecked
import GoSem.PinnedTables
import GoSem.Claim
import GoSem.ClaimJoined
import GoSem.ClaimMapViews
import Derived.JoinedTies
import Derived.KernelRfl
namespace Go.Proofs.YtndlhopdhfhjnaaDoor
/- THE CELL 'sum', in the pinned program and in every row, IS THE sha256 OF THE DUMP (.gsa) THAT YtndlhopdhfhjnaaDoorProg.lean LOADS. Nothing in Lean hashes anything: it is a label: what it is worth is what the hold of that sum in a sandbox is worth. -/
noncomputable def Tryd.pinned : Pinned := { name := "ytndlhopdhfhjnaadoor", sum := "a70181941441ee6e57ec4134d9e25926bcc7f042f1b313c642b2a48c155233ea", checked := Tryd.checked }
namespace Rows
def none {H : Type} : Left H := { results := [], args := [] }

/- WHAT THE LISTED PACKAGE-LEVEL VARIABLES READ AS WHEN THE CALL BEGINS. Each datum BY PROGRAM (the guide's laid-datum.mjs) off the statement by which the dump's own 'gosem.cut.vars' lays the variable. In a bare row this is a premise. The card (YtndlhopdhfhjnaaDoorCards.lean) ties it to the program's text. -/
def laid_unicode_utf8_acceptRanges {H : Type} : DataW H := .agg [.agg [.lit (.int .u8 128), .lit (.int .u8 191)], .agg [.lit (.int .u8 160), .lit (.int .u8 191)], .agg [.lit (.int .u8 128), .lit (.int .u8 159)], .agg [.lit (.int .u8 144), .lit (.int .u8 191)], .agg [.lit (.int .u8 128), .lit (.int .u8 143)], .agg [.lit (.int .u8 0), .lit (.int .u8 0)], .agg [.lit (.int .u8 0), .lit (.int .u8 0)], .agg [.lit (.int .u8 0), .lit (.int .u8 0)], .agg [.lit (.int .u8 0), .lit (.int .u8 0)], .agg [.lit (.int .u8 0), .lit (.int .u8 0)], .agg [.lit (.int .u8 0), .lit (.int .u8 0)], .agg [.lit (.int .u8 0), .lit (.int .u8 0)], .agg [.lit (.int .u8 0), .lit (.int .u8 0)], .agg [.lit (.int .u8 0), .lit (.int .u8 0)], .agg [.lit (.int .u8 0), .lit (.int .u8 0)], .agg [.lit (.int .u8 0), .lit (.int .u8 0)]]
/-- One of Go's own tables, pinned by name: the form's constant. -/
def laid_unicode_utf8_first : DataW Unit := Go.Pinned.utf8First

/-- 'interchangelaw7.ReplyBooksBelong': WHATEVER THE INPUT: true; the input reads as it did. -/
def replyBooksBelongSpec : ChangeSpec := { name := "replyBooksBelong", fn := fun _ => fun
  | [d] => { results := [.lit (.bool true)], args := [d] }
  | _ => none }
def replyBooksBelongRow : OpenClaim := { program := "ytndlhopdhfhjnaadoor", sum := "a70181941441ee6e57ec4134d9e25926bcc7f042f1b313c642b2a48c155233ea", func := "interchange/interchangelaw7.ReplyBooksBelong", spec := "replyBooksBelong", inPlace := ["internal/bytealg.IndexByteString", "internal/bytealg.IndexString"], named := ["unicode/utf8.first", "unicode/utf8.acceptRanges", "internal/bytealg.MaxLen"], apart := false, laid := [("unicode/utf8.acceptRanges", laid_unicode_utf8_acceptRanges), ("unicode/utf8.first", laid_unicode_utf8_first)] }
def ReplyBooksBelongSaid : Prop := replyBooksBelongRow.holds Tryd.pinned (OpenSpec.ofChange replyBooksBelongSpec)

/-- ITS FALSE NEIGHBOUR: 'it returns false'. Refute it at one input. -/
def replyBooksBelongWrong : ChangeSpec := { name := "replyBooksBelong", fn := fun _ => fun
  | [d] => { results := [.lit (.bool false)], args := [d] }
  | _ => none }
def ReplyBooksBelongWrongFalsely : Prop := replyBooksBelongRow.holds Tryd.pinned (OpenSpec.ofChange replyBooksBelongWrong)

/-- 'interchangelaw7.ReplyStatesAddUp': WHATEVER THE INPUT: true; the input reads as it did. -/
def replyStatesAddUpSpec : ChangeSpec := { name := "replyStatesAddUp", fn := fun _ => fun
  | [d1, d2] => { results := [.lit (.bool true)], args := [d1, d2] }
  | _ => none }
def replyStatesAddUpRow : OpenClaim := { program := "ytndlhopdhfhjnaadoor", sum := "a70181941441ee6e57ec4134d9e25926bcc7f042f1b313c642b2a48c155233ea", func := "interchange/interchangelaw7.ReplyStatesAddUp", spec := "replyStatesAddUp", inPlace := ["internal/bytealg.IndexByteString", "internal/bytealg.IndexString"], named := ["unicode/utf8.first", "unicode/utf8.acceptRanges", "internal/bytealg.MaxLen"], apart := false, laid := [("unicode/utf8.acceptRanges", laid_unicode_utf8_acceptRanges), ("unicode/utf8.first", laid_unicode_utf8_first)] }
def ReplyStatesAddUpSaid : Prop := replyStatesAddUpRow.holds Tryd.pinned (OpenSpec.ofChange replyStatesAddUpSpec)

/-- ITS FALSE NEIGHBOUR: 'it returns false'. Refute it at one input. -/
def replyStatesAddUpWrong : ChangeSpec := { name := "replyStatesAddUp", fn := fun _ => fun
  | [d1, d2] => { results := [.lit (.bool false)], args := [d1, d2] }
  | _ => none }
def ReplyStatesAddUpWrongFalsely : Prop := replyStatesAddUpRow.holds Tryd.pinned (OpenSpec.ofChange replyStatesAddUpWrong)

/-- 'interchangelaw7.ReplyBooksMatchSpec': WHATEVER THE INPUT: true; the input reads as it did. -/
def replyBooksMatchSpecSpec : ChangeSpec := { name := "replyBooksMatchSpec", fn := fun _ => fun
  | [d] => { results := [.lit (.bool true)], args := [d] }
  | _ => none }
def replyBooksMatchSpecRow : OpenClaim := { program := "ytndlhopdhfhjnaadoor", sum := "a70181941441ee6e57ec4134d9e25926bcc7f042f1b313c642b2a48c155233ea", func := "interchange/interchangelaw7.ReplyBooksMatchSpec", spec := "replyBooksMatchSpec", inPlace := ["internal/bytealg.IndexByteString", "internal/bytealg.IndexString"], named := ["unicode/utf8.first", "unicode/utf8.acceptRanges", "internal/bytealg.MaxLen"], apart := false, laid := [("unicode/utf8.acceptRanges", laid_unicode_utf8_acceptRanges), ("unicode/utf8.first", laid_unicode_utf8_first)] }
def ReplyBooksMatchSpecSaid : Prop := replyBooksMatchSpecRow.holds Tryd.pinned (OpenSpec.ofChange replyBooksMatchSpecSpec)

/-- ITS FALSE NEIGHBOUR: 'it returns false'. Refute it at one input. -/
def replyBooksMatchSpecWrong : ChangeSpec := { name := "replyBooksMatchSpec", fn := fun _ => fun
  | [d] => { results := [.lit (.bool false)], args := [d] }
  | _ => none }
def ReplyBooksMatchSpecWrongFalsely : Prop := replyBooksMatchSpecRow.holds Tryd.pinned (OpenSpec.ofChange replyBooksMatchSpecWrong)

/-- 'interchangelaw7.ReplyAnswersCount': WHATEVER THE INPUT: true; the input reads as it did. -/
def replyAnswersCountSpec : ChangeSpec := { name := "replyAnswersCount", fn := fun _ => fun
  | [d1, d2, d3] => { results := [.lit (.bool true)], args := [d1, d2, d3] }
  | _ => none }
def replyAnswersCountRow : OpenClaim := { program := "ytndlhopdhfhjnaadoor", sum := "a70181941441ee6e57ec4134d9e25926bcc7f042f1b313c642b2a48c155233ea", func := "interchange/interchangelaw7.ReplyAnswersCount", spec := "replyAnswersCount", inPlace := ["internal/bytealg.IndexByteString", "internal/bytealg.IndexString"], unfollowed := true, recurses := true, named := ["unicode/utf8.first", "unicode/utf8.acceptRanges", "internal/bytealg.MaxLen"], apart := false, laid := [("unicode/utf8.acceptRanges", laid_unicode_utf8_acceptRanges), ("unicode/utf8.first", laid_unicode_utf8_first)] }
def ReplyAnswersCountSaid : Prop := replyAnswersCountRow.holds Tryd.pinned (OpenSpec.ofChange replyAnswersCountSpec)

/-- ITS FALSE NEIGHBOUR: 'it returns false'. Refute it at one input. -/
def replyAnswersCountWrong : ChangeSpec := { name := "replyAnswersCount", fn := fun _ => fun
  | [d1, d2, d3] => { results := [.lit (.bool false)], args := [d1, d2, d3] }
  | _ => none }
def ReplyAnswersCountWrongFalsely : Prop := replyAnswersCountRow.holds Tryd.pinned (OpenSpec.ofChange replyAnswersCountWrong)

/-- 'interchangelaw7.ReplyAnswersMatchSpec': WHATEVER THE INPUT: true; the input reads as it did. -/
def replyAnswersMatchSpecSpec : ChangeSpec := { name := "replyAnswersMatchSpec", fn := fun _ => fun
  | [d1, d2, d3] => { results := [.lit (.bool true)], args := [d1, d2, d3] }
  | _ => none }
def replyAnswersMatchSpecRow : OpenClaim := { program := "ytndlhopdhfhjnaadoor", sum := "a70181941441ee6e57ec4134d9e25926bcc7f042f1b313c642b2a48c155233ea", func := "interchange/interchangelaw7.ReplyAnswersMatchSpec", spec := "replyAnswersMatchSpec", inPlace := ["internal/bytealg.IndexByteString", "internal/bytealg.IndexString"], unfollowed := true, recurses := true, named := ["unicode/utf8.first", "unicode/utf8.acceptRanges", "internal/bytealg.MaxLen"], apart := false, laid := [("unicode/utf8.acceptRanges", laid_unicode_utf8_acceptRanges), ("unicode/utf8.first", laid_unicode_utf8_first)] }
def ReplyAnswersMatchSpecSaid : Prop := replyAnswersMatchSpecRow.holds Tryd.pinned (OpenSpec.ofChange replyAnswersMatchSpecSpec)

/-- ITS FALSE NEIGHBOUR: 'it returns false'. Refute it at one input. -/
def replyAnswersMatchSpecWrong : ChangeSpec := { name := "replyAnswersMatchSpec", fn := fun _ => fun
  | [d1, d2, d3] => { results := [.lit (.bool false)], args := [d1, d2, d3] }
  | _ => none }
def ReplyAnswersMatchSpecWrongFalsely : Prop := replyAnswersMatchSpecRow.holds Tryd.pinned (OpenSpec.ofChange replyAnswersMatchSpecWrong)

/-- 'interchangelaw7.ReplyLaterChangesNothing': WHATEVER THE INPUT: true; the input reads as it did. -/
def replyLaterChangesNothingSpec : ChangeSpec := { name := "replyLaterChangesNothing", fn := fun _ => fun
  | [d1, d2, d3] => { results := [.lit (.bool true)], args := [d1, d2, d3] }
  | _ => none }
def replyLaterChangesNothingRow : OpenClaim := { program := "ytndlhopdhfhjnaadoor", sum := "a70181941441ee6e57ec4134d9e25926bcc7f042f1b313c642b2a48c155233ea", func := "interchange/interchangelaw7.ReplyLaterChangesNothing", spec := "replyLaterChangesNothing", inPlace := ["internal/bytealg.IndexByteString", "internal/bytealg.IndexString"], recurses := true, named := ["unicode/utf8.first", "unicode/utf8.acceptRanges", "internal/bytealg.MaxLen"], apart := false, laid := [("unicode/utf8.acceptRanges", laid_unicode_utf8_acceptRanges), ("unicode/utf8.first", laid_unicode_utf8_first)] }
def ReplyLaterChangesNothingSaid : Prop := replyLaterChangesNothingRow.holds Tryd.pinned (OpenSpec.ofChange replyLaterChangesNothingSpec)

/-- ITS FALSE NEIGHBOUR: 'it returns false'. Refute it at one input. -/
def replyLaterChangesNothingWrong : ChangeSpec := { name := "replyLaterChangesNothing", fn := fun _ => fun
  | [d1, d2, d3] => { results := [.lit (.bool false)], args := [d1, d2, d3] }
  | _ => none }
def ReplyLaterChangesNothingWrongFalsely : Prop := replyLaterChangesNothingRow.holds Tryd.pinned (OpenSpec.ofChange replyLaterChangesNothingWrong)

/-- 'interchangelaw7.ReplyStatesMatchSpec': WHATEVER THE INPUT: true; the input reads as it did. -/
def replyStatesMatchSpecSpec : ChangeSpec := { name := "replyStatesMatchSpec", fn := fun _ => fun
  | [d1, d2, d3, d4] => { results := [.lit (.bool true)], args := [d1, d2, d3, d4] }
  | _ => none }
def replyStatesMatchSpecRow : OpenClaim := { program := "ytndlhopdhfhjnaadoor", sum := "a70181941441ee6e57ec4134d9e25926bcc7f042f1b313c642b2a48c155233ea", func := "interchange/interchangelaw7.ReplyStatesMatchSpec", spec := "replyStatesMatchSpec", inPlace := ["internal/bytealg.IndexByteString", "internal/bytealg.IndexString"], recurses := true, named := ["unicode/utf8.first", "unicode/utf8.acceptRanges", "internal/bytealg.MaxLen"], apart := false, laid := [("unicode/utf8.acceptRanges", laid_unicode_utf8_acceptRanges), ("unicode/utf8.first", laid_unicode_utf8_first)] }
def ReplyStatesMatchSpecSaid : Prop := replyStatesMatchSpecRow.holds Tryd.pinned (OpenSpec.ofChange replyStatesMatchSpecSpec)

/-- ITS FALSE NEIGHBOUR: 'it returns false'. Refute it at one input. -/
def replyStatesMatchSpecWrong : ChangeSpec := { name := "replyStatesMatchSpec", fn := fun _ => fun
  | [d1, d2, d3, d4] => { results := [.lit (.bool false)], args := [d1, d2, d3, d4] }
  | _ => none }
def ReplyStatesMatchSpecWrongFalsely : Prop := replyStatesMatchSpecRow.holds Tryd.pinned (OpenSpec.ofChange replyStatesMatchSpecWrong)

/- THE SECOND FORM. 'bulk': how many values and letters a reading holds, each counted each time it is reached (what is shared counts as often as it is met; a slice's spare places count too). A statement '..UptoSaid' is the law's where the arguments, and the package variables that the reading takes, are together of bulk at most 1048576: NARROWER than '..Said'. Prove '..Said' where nothing that the law and all that it calls make is longer than what came in: it says more and counts as full. Else prove '..UptoSaid'. A law counts once. -/
mutual
def uptoBulk {H : Type} : DataW H → Nat
  | .lit (.string bytes) => bytes.length + 1
  | .lit _ => 1
  | .nil => 1
  | .ptr d => uptoBulk d + 1
  | .slice elems spare => uptoBulkAll elems + uptoBulkAll spare + 1
  | .agg parts => uptoBulkAll parts + 1
  | .iface _ d => uptoBulk d + 1
  | .map entries => uptoBulkEntries entries + 1
  | .held _ => 1
def uptoBulkAll {H : Type} : List (DataW H) → Nat
  | [] => 0
  | d :: r => uptoBulk d + uptoBulkAll r
def uptoBulkEntries {H : Type} : List (Lit × DataW H) → Nat
  | [] => 0
  | x :: r => uptoBulkEntry x + uptoBulkEntries r
def uptoBulkEntry {H : Type} : Lit × DataW H → Nat
  | (.string bytes, d) => bytes.length + uptoBulk d + 1
  | (_, d) => uptoBulk d + 1
 end
def uptoSmall : (H : Type) → List (DataW H) → Bool := fun _ ds => decide (uptoBulkAll ds ≤ 1048576)
def OpenSpec.upto (s : _root_.Go.ChangeSpec) : _root_.Go.OpenSpec := { _root_.Go.OpenSpec.ofChange s with cond := some uptoSmall }

/-- 'interchangelaw7.ReplyBooksBelong', WHERE WHAT IT READS IS OF BULK AT MOST 1048576: true; the input reads as it did. -/
def replyBooksBelongUptoRow : OpenClaim := { program := "ytndlhopdhfhjnaadoor", sum := "a70181941441ee6e57ec4134d9e25926bcc7f042f1b313c642b2a48c155233ea", func := "interchange/interchangelaw7.ReplyBooksBelong", spec := "replyBooksBelong", inPlace := ["internal/bytealg.IndexByteString", "internal/bytealg.IndexString"], named := ["unicode/utf8.first", "unicode/utf8.acceptRanges", "internal/bytealg.MaxLen"], apart := false, laid := [("unicode/utf8.acceptRanges", laid_unicode_utf8_acceptRanges), ("unicode/utf8.first", laid_unicode_utf8_first)], narrowed := true }
def ReplyBooksBelongUptoSaid : Prop := replyBooksBelongUptoRow.holds Tryd.pinned (OpenSpec.upto replyBooksBelongSpec)

/-- 'interchangelaw7.ReplyStatesAddUp', WHERE WHAT IT READS IS OF BULK AT MOST 1048576: true; the input reads as it did. -/
def replyStatesAddUpUptoRow : OpenClaim := { program := "ytndlhopdhfhjnaadoor", sum := "a70181941441ee6e57ec4134d9e25926bcc7f042f1b313c642b2a48c155233ea", func := "interchange/interchangelaw7.ReplyStatesAddUp", spec := "replyStatesAddUp", inPlace := ["internal/bytealg.IndexByteString", "internal/bytealg.IndexString"], named := ["unicode/utf8.first", "unicode/utf8.acceptRanges", "internal/bytealg.MaxLen"], apart := false, laid := [("unicode/utf8.acceptRanges", laid_unicode_utf8_acceptRanges), ("unicode/utf8.first", laid_unicode_utf8_first)], narrowed := true }
def ReplyStatesAddUpUptoSaid : Prop := replyStatesAddUpUptoRow.holds Tryd.pinned (OpenSpec.upto replyStatesAddUpSpec)

/-- 'interchangelaw7.ReplyBooksMatchSpec', WHERE WHAT IT READS IS OF BULK AT MOST 1048576: true; the input reads as it did. -/
def replyBooksMatchSpecUptoRow : OpenClaim := { program := "ytndlhopdhfhjnaadoor", sum := "a70181941441ee6e57ec4134d9e25926bcc7f042f1b313c642b2a48c155233ea", func := "interchange/interchangelaw7.ReplyBooksMatchSpec", spec := "replyBooksMatchSpec", inPlace := ["internal/bytealg.IndexByteString", "internal/bytealg.IndexString"], named := ["unicode/utf8.first", "unicode/utf8.acceptRanges", "internal/bytealg.MaxLen"], apart := false, laid := [("unicode/utf8.acceptRanges", laid_unicode_utf8_acceptRanges), ("unicode/utf8.first", laid_unicode_utf8_first)], narrowed := true }
def ReplyBooksMatchSpecUptoSaid : Prop := replyBooksMatchSpecUptoRow.holds Tryd.pinned (OpenSpec.upto replyBooksMatchSpecSpec)

/-- 'interchangelaw7.ReplyAnswersCount', WHERE WHAT IT READS IS OF BULK AT MOST 1048576: true; the input reads as it did. -/
def replyAnswersCountUptoRow : OpenClaim := { program := "ytndlhopdhfhjnaadoor", sum := "a70181941441ee6e57ec4134d9e25926bcc7f042f1b313c642b2a48c155233ea", func := "interchange/interchangelaw7.ReplyAnswersCount", spec := "replyAnswersCount", inPlace := ["internal/bytealg.IndexByteString", "internal/bytealg.IndexString"], unfollowed := true, recurses := true, named := ["unicode/utf8.first", "unicode/utf8.acceptRanges", "internal/bytealg.MaxLen"], apart := false, laid := [("unicode/utf8.acceptRanges", laid_unicode_utf8_acceptRanges), ("unicode/utf8.first", laid_unicode_utf8_first)], narrowed := true }
def ReplyAnswersCountUptoSaid : Prop := replyAnswersCountUptoRow.holds Tryd.pinned (OpenSpec.upto replyAnswersCountSpec)

/-- 'interchangelaw7.ReplyAnswersMatchSpec', WHERE WHAT IT READS IS OF BULK AT MOST 1048576: true; the input reads as it did. -/
def replyAnswersMatchSpecUptoRow : OpenClaim := { program := "ytndlhopdhfhjnaadoor", sum := "a70181941441ee6e57ec4134d9e25926bcc7f042f1b313c642b2a48c155233ea", func := "interchange/interchangelaw7.ReplyAnswersMatchSpec", spec := "replyAnswersMatchSpec", inPlace := ["internal/bytealg.IndexByteString", "internal/bytealg.IndexString"], unfollowed := true, recurses := true, named := ["unicode/utf8.first", "unicode/utf8.acceptRanges", "internal/bytealg.MaxLen"], apart := false, laid := [("unicode/utf8.acceptRanges", laid_unicode_utf8_acceptRanges), ("unicode/utf8.first", laid_unicode_utf8_first)], narrowed := true }
def ReplyAnswersMatchSpecUptoSaid : Prop := replyAnswersMatchSpecUptoRow.holds Tryd.pinned (OpenSpec.upto replyAnswersMatchSpecSpec)

/-- 'interchangelaw7.ReplyLaterChangesNothing', WHERE WHAT IT READS IS OF BULK AT MOST 1048576: true; the input reads as it did. -/
def replyLaterChangesNothingUptoRow : OpenClaim := { program := "ytndlhopdhfhjnaadoor", sum := "a70181941441ee6e57ec4134d9e25926bcc7f042f1b313c642b2a48c155233ea", func := "interchange/interchangelaw7.ReplyLaterChangesNothing", spec := "replyLaterChangesNothing", inPlace := ["internal/bytealg.IndexByteString", "internal/bytealg.IndexString"], recurses := true, named := ["unicode/utf8.first", "unicode/utf8.acceptRanges", "internal/bytealg.MaxLen"], apart := false, laid := [("unicode/utf8.acceptRanges", laid_unicode_utf8_acceptRanges), ("unicode/utf8.first", laid_unicode_utf8_first)], narrowed := true }
def ReplyLaterChangesNothingUptoSaid : Prop := replyLaterChangesNothingUptoRow.holds Tryd.pinned (OpenSpec.upto replyLaterChangesNothingSpec)

/-- 'interchangelaw7.ReplyStatesMatchSpec', WHERE WHAT IT READS IS OF BULK AT MOST 1048576: true; the input reads as it did. -/
def replyStatesMatchSpecUptoRow : OpenClaim := { program := "ytndlhopdhfhjnaadoor", sum := "a70181941441ee6e57ec4134d9e25926bcc7f042f1b313c642b2a48c155233ea", func := "interchange/interchangelaw7.ReplyStatesMatchSpec", spec := "replyStatesMatchSpec", inPlace := ["internal/bytealg.IndexByteString", "internal/bytealg.IndexString"], recurses := true, named := ["unicode/utf8.first", "unicode/utf8.acceptRanges", "internal/bytealg.MaxLen"], apart := false, laid := [("unicode/utf8.acceptRanges", laid_unicode_utf8_acceptRanges), ("unicode/utf8.first", laid_unicode_utf8_first)], narrowed := true }
def ReplyStatesMatchSpecUptoSaid : Prop := replyStatesMatchSpecUptoRow.holds Tryd.pinned (OpenSpec.upto replyStatesMatchSpecSpec)

end Rows
end Go.Proofs.YtndlhopdhfhjnaaDoor
