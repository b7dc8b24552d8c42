/-
  DERIVED. GIVEN WITH THE SEED: THE CARDS: each row of YtlhbonpdlghlbaaDoorRows.lean that lists a variable, with what it lists TIED to the program's text (the seventh form; the later family's looks); each row that meets fmt, with fmt's text TOLD by the authors' own Lean function (tested against real Go, not proved from fmt's source: count such statements apart). THE CARD IS WHAT COUNTS. Prove the row's statement (the work); the ties are given (YtlhbonpdlghlbaaDoorTie.lean); close each card by the builder's one call (the guide's Derived/Test/ToyasCard.lean, 'card_holds'). Laid BY PROGRAM, IN A SANDBOX (cutbox-door.mjs). By AI agents, Wed Nov 11 2026. No macro, syntax, notation, axiom, sorry.
-/
import Derived.Test.YtlhbonpdlghlbaaDoorRows
import GoSem.ClaimSeven
namespace Go.Proofs.YtlhbonpdlghlbaaDoor
namespace Rows

/-- THE TIED CARD OF 'interchangelaw2.WireChecksMatchSpec'. -/
def wireChecksMatchSpecCard : Claim7 := { stood := { row := wireChecksMatchSpecRow, standIns := [], harness := (true, "c0edb5e08e49b1824ea71a9b3f587a347731ad60be6a33beb66bd8fb745694b0"), looks := false }, kinds := [], alts := [], laidByText := true, laidKinds := [.data, .pinned], laidTests := true, laidLooks := .later }
def WireChecksMatchSpecCardSaid : Prop := Claim7.holds Tryd.pinned (.plain (OpenSpec.ofChange wireChecksMatchSpecSpec)) wireChecksMatchSpecCard

/-- THE TIED CARD OF 'interchangelaw2.WireBestMatchesSpec'. -/
def wireBestMatchesSpecCard : Claim7 := { stood := { row := wireBestMatchesSpecRow, standIns := [], harness := (true, "c0edb5e08e49b1824ea71a9b3f587a347731ad60be6a33beb66bd8fb745694b0"), looks := false }, kinds := [], alts := [], laidByText := true, laidKinds := [.data, .pinned], laidTests := true, laidLooks := .later }
def WireBestMatchesSpecCardSaid : Prop := Claim7.holds Tryd.pinned (.plain (OpenSpec.ofChange wireBestMatchesSpecSpec)) wireBestMatchesSpecCard

/-- THE TIED CARD OF 'interchangelaw2.WireJoinsMatchSpec'. -/
def wireJoinsMatchSpecCard : Claim7 := { stood := { row := wireJoinsMatchSpecRow, standIns := [], harness := (true, "c0edb5e08e49b1824ea71a9b3f587a347731ad60be6a33beb66bd8fb745694b0"), looks := false }, kinds := [], alts := [], laidByText := true, laidKinds := [.data, .pinned], laidTests := true, laidLooks := .later }
def WireJoinsMatchSpecCardSaid : Prop := Claim7.holds Tryd.pinned (.plain (OpenSpec.ofChange wireJoinsMatchSpecSpec)) wireJoinsMatchSpecCard

/-- THE TIED CARD OF 'interchangelaw2.WirePlacesMatchSpec'. -/
def wirePlacesMatchSpecCard : Claim7 := { stood := { row := wirePlacesMatchSpecRow, standIns := [], harness := (true, "c0edb5e08e49b1824ea71a9b3f587a347731ad60be6a33beb66bd8fb745694b0"), looks := false }, kinds := [], alts := [], laidByText := true, laidKinds := [.data, .pinned], laidTests := true, laidLooks := .later }
def WirePlacesMatchSpecCardSaid : Prop := Claim7.holds Tryd.pinned (.plain (OpenSpec.ofChange wirePlacesMatchSpecSpec)) wirePlacesMatchSpecCard

/-- THE TIED CARD OF 'interchangelaw2.WirePlacesAreFound'. -/
def wirePlacesAreFoundCard : Claim7 := { stood := { row := wirePlacesAreFoundRow, standIns := [], harness := (true, "c0edb5e08e49b1824ea71a9b3f587a347731ad60be6a33beb66bd8fb745694b0"), looks := false }, kinds := [], alts := [], laidByText := true, laidKinds := [.data, .pinned], laidTests := true, laidLooks := .later }
def WirePlacesAreFoundCardSaid : Prop := Claim7.holds Tryd.pinned (.plain (OpenSpec.ofChange wirePlacesAreFoundSpec)) wirePlacesAreFoundCard

/-- THE TIED CARD OF 'interchangelaw7.ReplyChecksMatchSpec'. -/
def replyChecksMatchSpecCard : Claim7 := { stood := { row := replyChecksMatchSpecRow, standIns := [], harness := (true, "c0edb5e08e49b1824ea71a9b3f587a347731ad60be6a33beb66bd8fb745694b0"), looks := false }, kinds := [], alts := [], laidByText := true, laidKinds := [.data, .data, .data, .data, .pinned], laidTests := true, laidLooks := .later }
def ReplyChecksMatchSpecCardSaid : Prop := Claim7.holds Tryd.pinned (.plain (OpenSpec.ofChange replyChecksMatchSpecSpec)) replyChecksMatchSpecCard

/-- THE SECOND FORM's CARD OF 'interchangelaw2.WireChecksMatchSpec'. -/
def wireChecksMatchSpecUptoCard : Claim7 := { stood := { row := wireChecksMatchSpecUptoRow, standIns := [], harness := (true, "c0edb5e08e49b1824ea71a9b3f587a347731ad60be6a33beb66bd8fb745694b0"), looks := false }, kinds := [], alts := [], laidByText := true, laidKinds := [.data, .pinned], laidTests := true, laidLooks := .later }
def WireChecksMatchSpecUptoCardSaid : Prop := Claim7.holds Tryd.pinned (.plain (OpenSpec.upto wireChecksMatchSpecSpec)) wireChecksMatchSpecUptoCard

/-- THE SECOND FORM's CARD OF 'interchangelaw2.WireBestMatchesSpec'. -/
def wireBestMatchesSpecUptoCard : Claim7 := { stood := { row := wireBestMatchesSpecUptoRow, standIns := [], harness := (true, "c0edb5e08e49b1824ea71a9b3f587a347731ad60be6a33beb66bd8fb745694b0"), looks := false }, kinds := [], alts := [], laidByText := true, laidKinds := [.data, .pinned], laidTests := true, laidLooks := .later }
def WireBestMatchesSpecUptoCardSaid : Prop := Claim7.holds Tryd.pinned (.plain (OpenSpec.upto wireBestMatchesSpecSpec)) wireBestMatchesSpecUptoCard

/-- THE SECOND FORM's CARD OF 'interchangelaw2.WireJoinsMatchSpec'. -/
def wireJoinsMatchSpecUptoCard : Claim7 := { stood := { row := wireJoinsMatchSpecUptoRow, standIns := [], harness := (true, "c0edb5e08e49b1824ea71a9b3f587a347731ad60be6a33beb66bd8fb745694b0"), looks := false }, kinds := [], alts := [], laidByText := true, laidKinds := [.data, .pinned], laidTests := true, laidLooks := .later }
def WireJoinsMatchSpecUptoCardSaid : Prop := Claim7.holds Tryd.pinned (.plain (OpenSpec.upto wireJoinsMatchSpecSpec)) wireJoinsMatchSpecUptoCard

/-- THE SECOND FORM's CARD OF 'interchangelaw2.WirePlacesMatchSpec'. -/
def wirePlacesMatchSpecUptoCard : Claim7 := { stood := { row := wirePlacesMatchSpecUptoRow, standIns := [], harness := (true, "c0edb5e08e49b1824ea71a9b3f587a347731ad60be6a33beb66bd8fb745694b0"), looks := false }, kinds := [], alts := [], laidByText := true, laidKinds := [.data, .pinned], laidTests := true, laidLooks := .later }
def WirePlacesMatchSpecUptoCardSaid : Prop := Claim7.holds Tryd.pinned (.plain (OpenSpec.upto wirePlacesMatchSpecSpec)) wirePlacesMatchSpecUptoCard

/-- THE SECOND FORM's CARD OF 'interchangelaw2.WirePlacesAreFound'. -/
def wirePlacesAreFoundUptoCard : Claim7 := { stood := { row := wirePlacesAreFoundUptoRow, standIns := [], harness := (true, "c0edb5e08e49b1824ea71a9b3f587a347731ad60be6a33beb66bd8fb745694b0"), looks := false }, kinds := [], alts := [], laidByText := true, laidKinds := [.data, .pinned], laidTests := true, laidLooks := .later }
def WirePlacesAreFoundUptoCardSaid : Prop := Claim7.holds Tryd.pinned (.plain (OpenSpec.upto wirePlacesAreFoundSpec)) wirePlacesAreFoundUptoCard

/-- THE SECOND FORM's CARD OF 'interchangelaw7.ReplyChecksMatchSpec'. -/
def replyChecksMatchSpecUptoCard : Claim7 := { stood := { row := replyChecksMatchSpecUptoRow, standIns := [], harness := (true, "c0edb5e08e49b1824ea71a9b3f587a347731ad60be6a33beb66bd8fb745694b0"), looks := false }, kinds := [], alts := [], laidByText := true, laidKinds := [.data, .data, .data, .data, .pinned], laidTests := true, laidLooks := .later }
def ReplyChecksMatchSpecUptoCardSaid : Prop := Claim7.holds Tryd.pinned (.plain (OpenSpec.upto replyChecksMatchSpecSpec)) replyChecksMatchSpecUptoCard
end Rows
end Go.Proofs.YtlhbonpdlghlbaaDoor
