/-
  DERIVED. GIVEN WITH THE SEED: THE CARDS: each row of YtndlhopdhfhjnaaDoorRows.lean that lists a variable, with what it lists TIED to the program's text (the seventh form; the later family's looks); each row that meets fmt, with fmt's text TOLD by the authors' own Lean function (tested against real Go, not proved from fmt's source: count such statements apart). THE CARD IS WHAT COUNTS. Prove the row's statement (the work); the ties are given (YtndlhopdhfhjnaaDoorTie.lean); close each card by the builder's one call (the guide's Derived/Test/ToyasCard.lean, 'card_holds'). Laid BY PROGRAM, IN A SANDBOX (cutbox-door.mjs). By AI agents, Wed Nov 11 2026. No macro, syntax, notation, axiom, sorry.
-/
import Derived.Test.YtndlhopdhfhjnaaDoorRows
import GoSem.ClaimSeven
namespace Go.Proofs.YtndlhopdhfhjnaaDoor
namespace Rows

/-- THE TIED CARD OF 'interchangelaw7.ReplyBooksBelong'. -/
def replyBooksBelongCard : Claim7 := { stood := { row := replyBooksBelongRow, standIns := [], harness := (true, "41c2f080f4f71b16e0b15f8845f12dad1425cb9e5175b3694167649ead832316"), looks := false }, kinds := [], alts := [], laidByText := true, laidKinds := [.data, .pinned], laidTests := true, laidLooks := .later }
def ReplyBooksBelongCardSaid : Prop := Claim7.holds Tryd.pinned (.plain (OpenSpec.ofChange replyBooksBelongSpec)) replyBooksBelongCard

/-- THE TIED CARD OF 'interchangelaw7.ReplyStatesAddUp'. -/
def replyStatesAddUpCard : Claim7 := { stood := { row := replyStatesAddUpRow, standIns := [], harness := (true, "41c2f080f4f71b16e0b15f8845f12dad1425cb9e5175b3694167649ead832316"), looks := false }, kinds := [], alts := [], laidByText := true, laidKinds := [.data, .pinned], laidTests := true, laidLooks := .later }
def ReplyStatesAddUpCardSaid : Prop := Claim7.holds Tryd.pinned (.plain (OpenSpec.ofChange replyStatesAddUpSpec)) replyStatesAddUpCard

/-- THE TIED CARD OF 'interchangelaw7.ReplyBooksMatchSpec'. -/
def replyBooksMatchSpecCard : Claim7 := { stood := { row := replyBooksMatchSpecRow, standIns := [], harness := (true, "41c2f080f4f71b16e0b15f8845f12dad1425cb9e5175b3694167649ead832316"), looks := false }, kinds := [], alts := [], laidByText := true, laidKinds := [.data, .pinned], laidTests := true, laidLooks := .later }
def ReplyBooksMatchSpecCardSaid : Prop := Claim7.holds Tryd.pinned (.plain (OpenSpec.ofChange replyBooksMatchSpecSpec)) replyBooksMatchSpecCard

/-- THE TIED CARD OF 'interchangelaw7.ReplyAnswersCount'. -/
def replyAnswersCountCard : Claim7 := { stood := { row := replyAnswersCountRow, standIns := [], harness := (true, "41c2f080f4f71b16e0b15f8845f12dad1425cb9e5175b3694167649ead832316"), looks := false }, kinds := [], alts := [], laidByText := true, laidKinds := [.data, .pinned], laidTests := true, laidLooks := .later }
def ReplyAnswersCountCardSaid : Prop := Claim7.holds Tryd.pinned (.plain (OpenSpec.ofChange replyAnswersCountSpec)) replyAnswersCountCard

/-- THE TIED CARD OF 'interchangelaw7.ReplyAnswersMatchSpec'. -/
def replyAnswersMatchSpecCard : Claim7 := { stood := { row := replyAnswersMatchSpecRow, standIns := [], harness := (true, "41c2f080f4f71b16e0b15f8845f12dad1425cb9e5175b3694167649ead832316"), looks := false }, kinds := [], alts := [], laidByText := true, laidKinds := [.data, .pinned], laidTests := true, laidLooks := .later }
def ReplyAnswersMatchSpecCardSaid : Prop := Claim7.holds Tryd.pinned (.plain (OpenSpec.ofChange replyAnswersMatchSpecSpec)) replyAnswersMatchSpecCard

/-- THE TIED CARD OF 'interchangelaw7.ReplyLaterChangesNothing'. -/
def replyLaterChangesNothingCard : Claim7 := { stood := { row := replyLaterChangesNothingRow, standIns := [], harness := (true, "41c2f080f4f71b16e0b15f8845f12dad1425cb9e5175b3694167649ead832316"), looks := false }, kinds := [], alts := [], laidByText := true, laidKinds := [.data, .pinned], laidTests := true, laidLooks := .later }
def ReplyLaterChangesNothingCardSaid : Prop := Claim7.holds Tryd.pinned (.plain (OpenSpec.ofChange replyLaterChangesNothingSpec)) replyLaterChangesNothingCard

/-- THE TIED CARD OF 'interchangelaw7.ReplyStatesMatchSpec'. -/
def replyStatesMatchSpecCard : Claim7 := { stood := { row := replyStatesMatchSpecRow, standIns := [], harness := (true, "41c2f080f4f71b16e0b15f8845f12dad1425cb9e5175b3694167649ead832316"), looks := false }, kinds := [], alts := [], laidByText := true, laidKinds := [.data, .pinned], laidTests := true, laidLooks := .later }
def ReplyStatesMatchSpecCardSaid : Prop := Claim7.holds Tryd.pinned (.plain (OpenSpec.ofChange replyStatesMatchSpecSpec)) replyStatesMatchSpecCard

/-- THE SECOND FORM's CARD OF 'interchangelaw7.ReplyBooksBelong'. -/
def replyBooksBelongUptoCard : Claim7 := { stood := { row := replyBooksBelongUptoRow, standIns := [], harness := (true, "41c2f080f4f71b16e0b15f8845f12dad1425cb9e5175b3694167649ead832316"), looks := false }, kinds := [], alts := [], laidByText := true, laidKinds := [.data, .pinned], laidTests := true, laidLooks := .later }
def ReplyBooksBelongUptoCardSaid : Prop := Claim7.holds Tryd.pinned (.plain (OpenSpec.upto replyBooksBelongSpec)) replyBooksBelongUptoCard

/-- THE SECOND FORM's CARD OF 'interchangelaw7.ReplyStatesAddUp'. -/
def replyStatesAddUpUptoCard : Claim7 := { stood := { row := replyStatesAddUpUptoRow, standIns := [], harness := (true, "41c2f080f4f71b16e0b15f8845f12dad1425cb9e5175b3694167649ead832316"), looks := false }, kinds := [], alts := [], laidByText := true, laidKinds := [.data, .pinned], laidTests := true, laidLooks := .later }
def ReplyStatesAddUpUptoCardSaid : Prop := Claim7.holds Tryd.pinned (.plain (OpenSpec.upto replyStatesAddUpSpec)) replyStatesAddUpUptoCard

/-- THE SECOND FORM's CARD OF 'interchangelaw7.ReplyBooksMatchSpec'. -/
def replyBooksMatchSpecUptoCard : Claim7 := { stood := { row := replyBooksMatchSpecUptoRow, standIns := [], harness := (true, "41c2f080f4f71b16e0b15f8845f12dad1425cb9e5175b3694167649ead832316"), looks := false }, kinds := [], alts := [], laidByText := true, laidKinds := [.data, .pinned], laidTests := true, laidLooks := .later }
def ReplyBooksMatchSpecUptoCardSaid : Prop := Claim7.holds Tryd.pinned (.plain (OpenSpec.upto replyBooksMatchSpecSpec)) replyBooksMatchSpecUptoCard

/-- THE SECOND FORM's CARD OF 'interchangelaw7.ReplyAnswersCount'. -/
def replyAnswersCountUptoCard : Claim7 := { stood := { row := replyAnswersCountUptoRow, standIns := [], harness := (true, "41c2f080f4f71b16e0b15f8845f12dad1425cb9e5175b3694167649ead832316"), looks := false }, kinds := [], alts := [], laidByText := true, laidKinds := [.data, .pinned], laidTests := true, laidLooks := .later }
def ReplyAnswersCountUptoCardSaid : Prop := Claim7.holds Tryd.pinned (.plain (OpenSpec.upto replyAnswersCountSpec)) replyAnswersCountUptoCard

/-- THE SECOND FORM's CARD OF 'interchangelaw7.ReplyAnswersMatchSpec'. -/
def replyAnswersMatchSpecUptoCard : Claim7 := { stood := { row := replyAnswersMatchSpecUptoRow, standIns := [], harness := (true, "41c2f080f4f71b16e0b15f8845f12dad1425cb9e5175b3694167649ead832316"), looks := false }, kinds := [], alts := [], laidByText := true, laidKinds := [.data, .pinned], laidTests := true, laidLooks := .later }
def ReplyAnswersMatchSpecUptoCardSaid : Prop := Claim7.holds Tryd.pinned (.plain (OpenSpec.upto replyAnswersMatchSpecSpec)) replyAnswersMatchSpecUptoCard

/-- THE SECOND FORM's CARD OF 'interchangelaw7.ReplyLaterChangesNothing'. -/
def replyLaterChangesNothingUptoCard : Claim7 := { stood := { row := replyLaterChangesNothingUptoRow, standIns := [], harness := (true, "41c2f080f4f71b16e0b15f8845f12dad1425cb9e5175b3694167649ead832316"), looks := false }, kinds := [], alts := [], laidByText := true, laidKinds := [.data, .pinned], laidTests := true, laidLooks := .later }
def ReplyLaterChangesNothingUptoCardSaid : Prop := Claim7.holds Tryd.pinned (.plain (OpenSpec.upto replyLaterChangesNothingSpec)) replyLaterChangesNothingUptoCard

/-- THE SECOND FORM's CARD OF 'interchangelaw7.ReplyStatesMatchSpec'. -/
def replyStatesMatchSpecUptoCard : Claim7 := { stood := { row := replyStatesMatchSpecUptoRow, standIns := [], harness := (true, "41c2f080f4f71b16e0b15f8845f12dad1425cb9e5175b3694167649ead832316"), looks := false }, kinds := [], alts := [], laidByText := true, laidKinds := [.data, .pinned], laidTests := true, laidLooks := .later }
def ReplyStatesMatchSpecUptoCardSaid : Prop := Claim7.holds Tryd.pinned (.plain (OpenSpec.upto replyStatesMatchSpecSpec)) replyStatesMatchSpecUptoCard
end Rows
end Go.Proofs.YtndlhopdhfhjnaaDoor
