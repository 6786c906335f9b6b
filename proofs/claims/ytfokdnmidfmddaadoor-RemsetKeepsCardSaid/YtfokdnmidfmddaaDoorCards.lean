/-
  DERIVED. GIVEN WITH THE SEED: THE CARDS: each row of YtfokdnmidfmddaaDoorRows.lean that lists a variable, with what it lists TIED to the program's text (the seventh form; the later family's looks); each row that meets fmt, with fmt's text TOLD by the authors' own Lean function (tested against real Go, not proved from fmt's source: count such statements apart). THE CARD IS WHAT COUNTS. Prove the row's statement (the work); the ties are given (YtfokdnmidfmddaaDoorTie.lean); close each card by the builder's one call (the guide's Derived/Test/ToyasCard.lean, 'card_holds'). Laid BY PROGRAM, IN A SANDBOX (cutbox-door.mjs). By AI agents, Wed Nov 11 2026. No macro, syntax, notation, axiom, sorry.
-/
import Derived.Test.YtfokdnmidfmddaaDoorRows
import GoSem.ClaimSeven
namespace Go.Proofs.YtfokdnmidfmddaaDoor
namespace Rows

/-- THE TIED CARD OF 'gleanerlaw11.RemsetApart'. -/
def remsetApartCard : Claim7 := { stood := { row := remsetApartRow, standIns := [], harness := (true, "612fd253c0c841a06b67e09f6307c780e811de134bce226c6b24ae22adb9c3dd"), looks := false }, kinds := [], alts := [], laidByText := true, laidKinds := [.data], laidTests := true, laidLooks := .later }
def RemsetApartCardSaid : Prop := Claim7.holds Tryd.pinned (.plain (OpenSpec.ofChange remsetApartSpec)) remsetApartCard

/-- THE TIED CARD OF 'gleanerlaw11.RemsetPlays'. -/
def remsetPlaysCard : Claim7 := { stood := { row := remsetPlaysRow, standIns := [], harness := (true, "612fd253c0c841a06b67e09f6307c780e811de134bce226c6b24ae22adb9c3dd"), looks := false }, kinds := [], alts := [], laidByText := true, laidKinds := [.data], laidTests := true, laidLooks := .later }
def RemsetPlaysCardSaid : Prop := Claim7.holds Tryd.pinned (.plain (OpenSpec.ofChange remsetPlaysSpec)) remsetPlaysCard

/-- THE TIED CARD OF 'gleanerlaw11.RemsetKeeps'. -/
def remsetKeepsCard : Claim7 := { stood := { row := remsetKeepsRow, standIns := [], harness := (true, "612fd253c0c841a06b67e09f6307c780e811de134bce226c6b24ae22adb9c3dd"), looks := false }, kinds := [], alts := [], laidByText := true, laidKinds := [.data], laidTests := true, laidLooks := .later }
def RemsetKeepsCardSaid : Prop := Claim7.holds Tryd.pinned (.plain (OpenSpec.ofChange remsetKeepsSpec)) remsetKeepsCard

/-- THE TIED CARD OF 'gleanerlaw11.RemsetNil'. -/
def remsetNilCard : Claim7 := { stood := { row := remsetNilRow, standIns := [], harness := (true, "612fd253c0c841a06b67e09f6307c780e811de134bce226c6b24ae22adb9c3dd"), looks := false }, kinds := [], alts := [], laidByText := true, laidKinds := [.data], laidTests := true, laidLooks := .later }
def RemsetNilCardSaid : Prop := Claim7.holds Tryd.pinned (.plain (OpenSpec.ofChange remsetNilSpec)) remsetNilCard

/-- THE SECOND FORM's CARD OF 'gleanerlaw11.RemsetApart'. -/
def remsetApartUptoCard : Claim7 := { stood := { row := remsetApartUptoRow, standIns := [], harness := (true, "612fd253c0c841a06b67e09f6307c780e811de134bce226c6b24ae22adb9c3dd"), looks := false }, kinds := [], alts := [], laidByText := true, laidKinds := [.data], laidTests := true, laidLooks := .later }
def RemsetApartUptoCardSaid : Prop := Claim7.holds Tryd.pinned (.plain (OpenSpec.upto remsetApartSpec)) remsetApartUptoCard

/-- THE SECOND FORM's CARD OF 'gleanerlaw11.RemsetPlays'. -/
def remsetPlaysUptoCard : Claim7 := { stood := { row := remsetPlaysUptoRow, standIns := [], harness := (true, "612fd253c0c841a06b67e09f6307c780e811de134bce226c6b24ae22adb9c3dd"), looks := false }, kinds := [], alts := [], laidByText := true, laidKinds := [.data], laidTests := true, laidLooks := .later }
def RemsetPlaysUptoCardSaid : Prop := Claim7.holds Tryd.pinned (.plain (OpenSpec.upto remsetPlaysSpec)) remsetPlaysUptoCard

/-- THE SECOND FORM's CARD OF 'gleanerlaw11.RemsetKeeps'. -/
def remsetKeepsUptoCard : Claim7 := { stood := { row := remsetKeepsUptoRow, standIns := [], harness := (true, "612fd253c0c841a06b67e09f6307c780e811de134bce226c6b24ae22adb9c3dd"), looks := false }, kinds := [], alts := [], laidByText := true, laidKinds := [.data], laidTests := true, laidLooks := .later }
def RemsetKeepsUptoCardSaid : Prop := Claim7.holds Tryd.pinned (.plain (OpenSpec.upto remsetKeepsSpec)) remsetKeepsUptoCard

/-- THE SECOND FORM's CARD OF 'gleanerlaw11.RemsetNil'. -/
def remsetNilUptoCard : Claim7 := { stood := { row := remsetNilUptoRow, standIns := [], harness := (true, "612fd253c0c841a06b67e09f6307c780e811de134bce226c6b24ae22adb9c3dd"), looks := false }, kinds := [], alts := [], laidByText := true, laidKinds := [.data], laidTests := true, laidLooks := .later }
def RemsetNilUptoCardSaid : Prop := Claim7.holds Tryd.pinned (.plain (OpenSpec.upto remsetNilSpec)) remsetNilUptoCard
end Rows
end Go.Proofs.YtfokdnmidfmddaaDoor
