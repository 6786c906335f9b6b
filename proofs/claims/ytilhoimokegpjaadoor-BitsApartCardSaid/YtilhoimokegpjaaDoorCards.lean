/-
  DERIVED. GIVEN WITH THE SEED: THE CARDS: each row of YtilhoimokegpjaaDoorRows.lean that lists a variable, with what it lists TIED to the program's text (the seventh form; the later family's looks); each row that meets fmt, with fmt's text TOLD by the authors' own Lean function (tested against real Go, not proved from fmt's source: count such statements apart). THE CARD IS WHAT COUNTS. Prove the row's statement (the work); the ties are given (YtilhoimokegpjaaDoorTie.lean); close each card by the builder's one call (the guide's Derived/Test/ToyasCard.lean, 'card_holds'). Laid BY PROGRAM, IN A SANDBOX (cutbox-door.mjs). By AI agents, Wed Nov 11 2026. No macro, syntax, notation, axiom, sorry.
-/
import Derived.Test.YtilhoimokegpjaaDoorRows
import GoSem.ClaimSeven
namespace Go.Proofs.YtilhoimokegpjaaDoor
namespace Rows

/-- THE TIED CARD OF 'gleanerlaw09.CardsPlays'. -/
def cardsPlaysCard : Claim7 := { stood := { row := cardsPlaysRow, standIns := [], harness := (true, "f8a917ecab93576353ff062629308220fef4e9e1f9c1fa74c9a97c40f0437c31"), looks := false }, kinds := [], alts := [], laidByText := true, laidKinds := [.data], laidTests := true, laidLooks := .later }
def CardsPlaysCardSaid : Prop := Claim7.holds Tryd.pinned (.plain (OpenSpec.ofChange cardsPlaysSpec)) cardsPlaysCard

/-- THE TIED CARD OF 'gleanerlaw09.CardsNil'. -/
def cardsNilCard : Claim7 := { stood := { row := cardsNilRow, standIns := [], harness := (true, "f8a917ecab93576353ff062629308220fef4e9e1f9c1fa74c9a97c40f0437c31"), looks := false }, kinds := [], alts := [], laidByText := true, laidKinds := [.data], laidTests := true, laidLooks := .later }
def CardsNilCardSaid : Prop := Claim7.holds Tryd.pinned (.plain (OpenSpec.ofChange cardsNilSpec)) cardsNilCard

/-- THE TIED CARD OF 'gleanerlaw01.BitsCounts'. -/
def bitsCountsCard : Claim7 := { stood := { row := bitsCountsRow, standIns := [], harness := (true, "f8a917ecab93576353ff062629308220fef4e9e1f9c1fa74c9a97c40f0437c31"), looks := false }, kinds := [], alts := [], laidByText := true, laidKinds := [.data], laidTests := true, laidLooks := .later }
def BitsCountsCardSaid : Prop := Claim7.holds Tryd.pinned (.plain (OpenSpec.ofChange bitsCountsSpec)) bitsCountsCard

/-- THE TIED CARD OF 'gleanerlaw01.BitsApart'. -/
def bitsApartCard : Claim7 := { stood := { row := bitsApartRow, standIns := [], harness := (true, "f8a917ecab93576353ff062629308220fef4e9e1f9c1fa74c9a97c40f0437c31"), looks := false }, kinds := [], alts := [], laidByText := true, laidKinds := [.data], laidTests := true, laidLooks := .later }
def BitsApartCardSaid : Prop := Claim7.holds Tryd.pinned (.plain (OpenSpec.ofChange bitsApartSpec)) bitsApartCard

/-- THE SECOND FORM's CARD OF 'gleanerlaw09.CardsPlays'. -/
def cardsPlaysUptoCard : Claim7 := { stood := { row := cardsPlaysUptoRow, standIns := [], harness := (true, "f8a917ecab93576353ff062629308220fef4e9e1f9c1fa74c9a97c40f0437c31"), looks := false }, kinds := [], alts := [], laidByText := true, laidKinds := [.data], laidTests := true, laidLooks := .later }
def CardsPlaysUptoCardSaid : Prop := Claim7.holds Tryd.pinned (.plain (OpenSpec.upto cardsPlaysSpec)) cardsPlaysUptoCard

/-- THE SECOND FORM's CARD OF 'gleanerlaw09.CardsNil'. -/
def cardsNilUptoCard : Claim7 := { stood := { row := cardsNilUptoRow, standIns := [], harness := (true, "f8a917ecab93576353ff062629308220fef4e9e1f9c1fa74c9a97c40f0437c31"), looks := false }, kinds := [], alts := [], laidByText := true, laidKinds := [.data], laidTests := true, laidLooks := .later }
def CardsNilUptoCardSaid : Prop := Claim7.holds Tryd.pinned (.plain (OpenSpec.upto cardsNilSpec)) cardsNilUptoCard

/-- THE SECOND FORM's CARD OF 'gleanerlaw01.BitsCounts'. -/
def bitsCountsUptoCard : Claim7 := { stood := { row := bitsCountsUptoRow, standIns := [], harness := (true, "f8a917ecab93576353ff062629308220fef4e9e1f9c1fa74c9a97c40f0437c31"), looks := false }, kinds := [], alts := [], laidByText := true, laidKinds := [.data], laidTests := true, laidLooks := .later }
def BitsCountsUptoCardSaid : Prop := Claim7.holds Tryd.pinned (.plain (OpenSpec.upto bitsCountsSpec)) bitsCountsUptoCard

/-- THE SECOND FORM's CARD OF 'gleanerlaw01.BitsApart'. -/
def bitsApartUptoCard : Claim7 := { stood := { row := bitsApartUptoRow, standIns := [], harness := (true, "f8a917ecab93576353ff062629308220fef4e9e1f9c1fa74c9a97c40f0437c31"), looks := false }, kinds := [], alts := [], laidByText := true, laidKinds := [.data], laidTests := true, laidLooks := .later }
def BitsApartUptoCardSaid : Prop := Claim7.holds Tryd.pinned (.plain (OpenSpec.upto bitsApartSpec)) bitsApartUptoCard
end Rows
end Go.Proofs.YtilhoimokegpjaaDoor
