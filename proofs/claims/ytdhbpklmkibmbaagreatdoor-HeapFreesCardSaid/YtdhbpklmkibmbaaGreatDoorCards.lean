/-
  DERIVED. GIVEN WITH THE SEED: THE CARDS: each row of YtdhbpklmkibmbaaGreatDoorRows.lean that lists a variable, with what it lists TIED to the program's text (the seventh form; the later family's looks); each row that meets fmt, with fmt's text TOLD by the authors' own Lean function (tested against real Go, not proved from fmt's source: count such statements apart). THE CARD IS WHAT COUNTS. Prove the row's statement (the work); the ties are given (YtdhbpklmkibmbaaGreatDoorTie.lean); close each card by the builder's one call (the guide's Derived/Test/ToyasCard.lean, 'card_holds'). Laid BY PROGRAM, IN A SANDBOX (cutbox-door.mjs). By AI agents, Wed Nov 11 2026. No macro, syntax, notation, axiom, sorry.
-/
import Derived.Test.YtdhbpklmkibmbaaGreatDoorRows
import GoSem.ClaimSeven
namespace Go.Proofs.YtdhbpklmkibmbaaGreatDoor
namespace Rows

/-- THE TIED CARD OF 'gleanerlaw14.HeapFrees'. -/
def heapFreesCard : Claim7 := { stood := { row := heapFreesRow, standIns := [], harness := (true, "caababcd414f18cfd403bf864820f3644fbc35fd060df9a6312bbb507fee8e5e"), looks := false }, kinds := [], alts := [], laidByText := true, laidKinds := [.data], laidTests := true, laidLooks := .later }
def HeapFreesCardSaid : Prop := Claim7.holds Tryz.pinned (.plain (OpenSpec.ofChange heapFreesSpec)) heapFreesCard

/-- THE TIED CARD OF 'gleanerlaw15.MutateNotes'. -/
def mutateNotesCard : Claim7 := { stood := { row := mutateNotesRow, standIns := [], harness := (true, "caababcd414f18cfd403bf864820f3644fbc35fd060df9a6312bbb507fee8e5e"), looks := false }, kinds := [], alts := [], laidByText := true, laidKinds := [.data], laidTests := true, laidLooks := .later }
def MutateNotesCardSaid : Prop := Claim7.holds Tryz.pinned (.plain (OpenSpec.ofChange mutateNotesSpec)) mutateNotesCard

/-- THE TIED CARD OF 'gleanerlaw17.MarkNil'. -/
def markNilCard : Claim7 := { stood := { row := markNilRow, standIns := [], harness := (true, "caababcd414f18cfd403bf864820f3644fbc35fd060df9a6312bbb507fee8e5e"), looks := false }, kinds := [], alts := [], laidByText := true, laidKinds := [.data], laidTests := true, laidLooks := .later }
def MarkNilCardSaid : Prop := Claim7.holds Tryz.pinned (.plain (OpenSpec.ofChange markNilSpec)) markNilCard

/-- THE SECOND FORM's CARD OF 'gleanerlaw14.HeapFrees'. -/
def heapFreesUptoCard : Claim7 := { stood := { row := heapFreesUptoRow, standIns := [], harness := (true, "caababcd414f18cfd403bf864820f3644fbc35fd060df9a6312bbb507fee8e5e"), looks := false }, kinds := [], alts := [], laidByText := true, laidKinds := [.data], laidTests := true, laidLooks := .later }
def HeapFreesUptoCardSaid : Prop := Claim7.holds Tryz.pinned (.plain (OpenSpec.upto heapFreesSpec)) heapFreesUptoCard

/-- THE SECOND FORM's CARD OF 'gleanerlaw15.MutateNotes'. -/
def mutateNotesUptoCard : Claim7 := { stood := { row := mutateNotesUptoRow, standIns := [], harness := (true, "caababcd414f18cfd403bf864820f3644fbc35fd060df9a6312bbb507fee8e5e"), looks := false }, kinds := [], alts := [], laidByText := true, laidKinds := [.data], laidTests := true, laidLooks := .later }
def MutateNotesUptoCardSaid : Prop := Claim7.holds Tryz.pinned (.plain (OpenSpec.upto mutateNotesSpec)) mutateNotesUptoCard

/-- THE SECOND FORM's CARD OF 'gleanerlaw17.MarkNil'. -/
def markNilUptoCard : Claim7 := { stood := { row := markNilUptoRow, standIns := [], harness := (true, "caababcd414f18cfd403bf864820f3644fbc35fd060df9a6312bbb507fee8e5e"), looks := false }, kinds := [], alts := [], laidByText := true, laidKinds := [.data], laidTests := true, laidLooks := .later }
def MarkNilUptoCardSaid : Prop := Claim7.holds Tryz.pinned (.plain (OpenSpec.upto markNilSpec)) markNilUptoCard
end Rows
end Go.Proofs.YtdhbpklmkibmbaaGreatDoor
