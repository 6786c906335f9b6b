/-
  No cell of these rows narrows 'for every input' (looked for: loops, veiled, ifaces, maps, wideKeys, modest, calm, conditions, laid).
  DERIVED. THE GIVEN ROWS OF THIS SEAT. 8 by the template 'for every input the law returns true; each argument reads behind the call as it read before'; 0 by the template 'total and deterministic' (their statements: YtilhoimokegpjaaTotals.lean).
  GIVEN WITH THE SEED: the statements are not yours to turn. If you find one false, say at which input.
  Laid BY PROGRAM, IN A SANDBOX (cutbox-rows.mjs): the forced cells as the released guide's own fill.sh prints them over the translation 799208182618eb3f… (all of the seat's roots in one cut). By AI agents, Wed Nov 11 2026. No macro, syntax, notation, axiom, sorry.
-/
import Derived.Test.YtilhoimokegpjaaChecked
import GoSem.Claim
import GoSem.ClaimJoined
import GoSem.ClaimMapViews
import Derived.JoinedTies
import Derived.KernelRfl
namespace Go.Proofs.Ytilhoimokegpjaa
/- THE CELL 'sum', in the pinned program and in every row, IS THE sha256 OF THE DUMP (.gsa) THAT YtilhoimokegpjaaProg.lean LOADS. Nothing in Lean hashes anything: it is a label: what it is worth is what the hold of that sum in a sandbox is worth. -/
noncomputable def Try.pinned : Pinned := { name := "ytilhoimokegpjaa", sum := "799208182618eb3f40e2a9b085d98ee949a8220e6acad879b4a2ae562d93e3fe", checked := Try.checked }
namespace Rows
def none {H : Type} : Left H := { results := [], args := [] }

/-- 'gleanerlaw06.OffsCovers': WHATEVER THE INPUT: true; the input reads as it did. -/
def offsCoversSpec : ChangeSpec := { name := "offsCovers", fn := fun _ => fun
  | [d] => { results := [.lit (.bool true)], args := [d] }
  | _ => none }
def offsCoversRow : OpenClaim := { program := "ytilhoimokegpjaa", sum := "799208182618eb3f40e2a9b085d98ee949a8220e6acad879b4a2ae562d93e3fe", func := "gleaner/gleanerlaw06.OffsCovers", spec := "offsCovers", unfollowed := true, recurses := true, apart := false }
def OffsCoversSaid : Prop := offsCoversRow.holds Try.pinned (OpenSpec.ofChange offsCoversSpec)

/-- ITS FALSE NEIGHBOUR: 'it returns false'. Refute it at one input. -/
def offsCoversWrong : ChangeSpec := { name := "offsCovers", fn := fun _ => fun
  | [d] => { results := [.lit (.bool false)], args := [d] }
  | _ => none }
def OffsCoversWrongFalsely : Prop := offsCoversRow.holds Try.pinned (OpenSpec.ofChange offsCoversWrong)

/-- 'gleanerlaw06.OffsNil': WHATEVER THE INPUT: true; the input reads as it did. -/
def offsNilSpec : ChangeSpec := { name := "offsNil", fn := fun _ => fun
  | [d] => { results := [.lit (.bool true)], args := [d] }
  | _ => none }
def offsNilRow : OpenClaim := { program := "ytilhoimokegpjaa", sum := "799208182618eb3f40e2a9b085d98ee949a8220e6acad879b4a2ae562d93e3fe", func := "gleaner/gleanerlaw06.OffsNil", spec := "offsNil", unfollowed := true, recurses := true, apart := false }
def OffsNilSaid : Prop := offsNilRow.holds Try.pinned (OpenSpec.ofChange offsNilSpec)

/-- ITS FALSE NEIGHBOUR: 'it returns false'. Refute it at one input. -/
def offsNilWrong : ChangeSpec := { name := "offsNil", fn := fun _ => fun
  | [d] => { results := [.lit (.bool false)], args := [d] }
  | _ => none }
def OffsNilWrongFalsely : Prop := offsNilRow.holds Try.pinned (OpenSpec.ofChange offsNilWrong)

/-- 'gleanerlaw02.GeomSpans': WHATEVER THE INPUT: true; the input reads as it did. -/
def geomSpansSpec : ChangeSpec := { name := "geomSpans", fn := fun _ => fun
  | [d1, d2] => { results := [.lit (.bool true)], args := [d1, d2] }
  | _ => none }
def geomSpansRow : OpenClaim := { program := "ytilhoimokegpjaa", sum := "799208182618eb3f40e2a9b085d98ee949a8220e6acad879b4a2ae562d93e3fe", func := "gleaner/gleanerlaw02.GeomSpans", spec := "geomSpans", apart := false }
def GeomSpansSaid : Prop := geomSpansRow.holds Try.pinned (OpenSpec.ofChange geomSpansSpec)

/-- ITS FALSE NEIGHBOUR: 'it returns false'. Refute it at one input. -/
def geomSpansWrong : ChangeSpec := { name := "geomSpans", fn := fun _ => fun
  | [d1, d2] => { results := [.lit (.bool false)], args := [d1, d2] }
  | _ => none }
def GeomSpansWrongFalsely : Prop := geomSpansRow.holds Try.pinned (OpenSpec.ofChange geomSpansWrong)

/-- 'gleanerlaw02.GeomAll': WHATEVER THE INPUT: true; the input reads as it did. -/
def geomAllSpec : ChangeSpec := { name := "geomAll", fn := fun _ => fun
  | [d1, d2, d3, d4] => { results := [.lit (.bool true)], args := [d1, d2, d3, d4] }
  | _ => none }
def geomAllRow : OpenClaim := { program := "ytilhoimokegpjaa", sum := "799208182618eb3f40e2a9b085d98ee949a8220e6acad879b4a2ae562d93e3fe", func := "gleaner/gleanerlaw02.GeomAll", spec := "geomAll", apart := false }
def GeomAllSaid : Prop := geomAllRow.holds Try.pinned (OpenSpec.ofChange geomAllSpec)

/-- ITS FALSE NEIGHBOUR: 'it returns false'. Refute it at one input. -/
def geomAllWrong : ChangeSpec := { name := "geomAll", fn := fun _ => fun
  | [d1, d2, d3, d4] => { results := [.lit (.bool false)], args := [d1, d2, d3, d4] }
  | _ => none }
def GeomAllWrongFalsely : Prop := geomAllRow.holds Try.pinned (OpenSpec.ofChange geomAllWrong)

/-- 'gleanerlaw02.GeomPlaces': WHATEVER THE INPUT: true; the input reads as it did. -/
def geomPlacesSpec : ChangeSpec := { name := "geomPlaces", fn := fun _ => fun
  | [d1, d2, d3] => { results := [.lit (.bool true)], args := [d1, d2, d3] }
  | _ => none }
def geomPlacesRow : OpenClaim := { program := "ytilhoimokegpjaa", sum := "799208182618eb3f40e2a9b085d98ee949a8220e6acad879b4a2ae562d93e3fe", func := "gleaner/gleanerlaw02.GeomPlaces", spec := "geomPlaces", apart := false }
def GeomPlacesSaid : Prop := geomPlacesRow.holds Try.pinned (OpenSpec.ofChange geomPlacesSpec)

/-- ITS FALSE NEIGHBOUR: 'it returns false'. Refute it at one input. -/
def geomPlacesWrong : ChangeSpec := { name := "geomPlaces", fn := fun _ => fun
  | [d1, d2, d3] => { results := [.lit (.bool false)], args := [d1, d2, d3] }
  | _ => none }
def GeomPlacesWrongFalsely : Prop := geomPlacesRow.holds Try.pinned (OpenSpec.ofChange geomPlacesWrong)

/-- 'gleanerlaw09.CardsNotes': WHATEVER THE INPUT: true; the input reads as it did. -/
def cardsNotesSpec : ChangeSpec := { name := "cardsNotes", fn := fun _ => fun
  | [d1, d2, d3, d4] => { results := [.lit (.bool true)], args := [d1, d2, d3, d4] }
  | _ => none }
def cardsNotesRow : OpenClaim := { program := "ytilhoimokegpjaa", sum := "799208182618eb3f40e2a9b085d98ee949a8220e6acad879b4a2ae562d93e3fe", func := "gleaner/gleanerlaw09.CardsNotes", spec := "cardsNotes", apart := false }
def CardsNotesSaid : Prop := cardsNotesRow.holds Try.pinned (OpenSpec.ofChange cardsNotesSpec)

/-- ITS FALSE NEIGHBOUR: 'it returns false'. Refute it at one input. -/
def cardsNotesWrong : ChangeSpec := { name := "cardsNotes", fn := fun _ => fun
  | [d1, d2, d3, d4] => { results := [.lit (.bool false)], args := [d1, d2, d3, d4] }
  | _ => none }
def CardsNotesWrongFalsely : Prop := cardsNotesRow.holds Try.pinned (OpenSpec.ofChange cardsNotesWrong)

/-- 'gleanerlaw07.RegionApart': WHATEVER THE INPUT: true; the input reads as it did. -/
def regionApartSpec : ChangeSpec := { name := "regionApart", fn := fun _ => fun
  | [d] => { results := [.lit (.bool true)], args := [d] }
  | _ => none }
def regionApartRow : OpenClaim := { program := "ytilhoimokegpjaa", sum := "799208182618eb3f40e2a9b085d98ee949a8220e6acad879b4a2ae562d93e3fe", func := "gleaner/gleanerlaw07.RegionApart", spec := "regionApart", apart := false }
def RegionApartSaid : Prop := regionApartRow.holds Try.pinned (OpenSpec.ofChange regionApartSpec)

/-- ITS FALSE NEIGHBOUR: 'it returns false'. Refute it at one input. -/
def regionApartWrong : ChangeSpec := { name := "regionApart", fn := fun _ => fun
  | [d] => { results := [.lit (.bool false)], args := [d] }
  | _ => none }
def RegionApartWrongFalsely : Prop := regionApartRow.holds Try.pinned (OpenSpec.ofChange regionApartWrong)

/-- 'gleanerlaw07.RegionStates': WHATEVER THE INPUT: true; the input reads as it did. -/
def regionStatesSpec : ChangeSpec := { name := "regionStates", fn := fun _ => fun
  | [d] => { results := [.lit (.bool true)], args := [d] }
  | _ => none }
def regionStatesRow : OpenClaim := { program := "ytilhoimokegpjaa", sum := "799208182618eb3f40e2a9b085d98ee949a8220e6acad879b4a2ae562d93e3fe", func := "gleaner/gleanerlaw07.RegionStates", spec := "regionStates", apart := false }
def RegionStatesSaid : Prop := regionStatesRow.holds Try.pinned (OpenSpec.ofChange regionStatesSpec)

/-- ITS FALSE NEIGHBOUR: 'it returns false'. Refute it at one input. -/
def regionStatesWrong : ChangeSpec := { name := "regionStates", fn := fun _ => fun
  | [d] => { results := [.lit (.bool false)], args := [d] }
  | _ => none }
def RegionStatesWrongFalsely : Prop := regionStatesRow.holds Try.pinned (OpenSpec.ofChange regionStatesWrong)

/- THE SECOND FORM. 'bulk': how many values and letters a reading holds, each counted each time it is reached (what is shared counts as often as it is met; a slice's spare places count too). A statement '..UptoSaid' is the law's where the arguments, and the package variables that the reading takes, are together of bulk at most 1048576: NARROWER than '..Said'. Prove '..Said' where nothing that the law and all that it calls make is longer than what came in: it says more and counts as full. Else prove '..UptoSaid'. A law counts once. -/
mutual
def uptoBulk {H : Type} : DataW H → Nat
  | .lit (.string bytes) => bytes.length + 1
  | .lit _ => 1
  | .nil => 1
  | .ptr d => uptoBulk d + 1
  | .slice elems spare => uptoBulkAll elems + uptoBulkAll spare + 1
  | .agg parts => uptoBulkAll parts + 1
  | .iface _ d => uptoBulk d + 1
  | .map entries => uptoBulkEntries entries + 1
  | .held _ => 1
def uptoBulkAll {H : Type} : List (DataW H) → Nat
  | [] => 0
  | d :: r => uptoBulk d + uptoBulkAll r
def uptoBulkEntries {H : Type} : List (Lit × DataW H) → Nat
  | [] => 0
  | x :: r => uptoBulkEntry x + uptoBulkEntries r
def uptoBulkEntry {H : Type} : Lit × DataW H → Nat
  | (.string bytes, d) => bytes.length + uptoBulk d + 1
  | (_, d) => uptoBulk d + 1
 end
def uptoSmall : (H : Type) → List (DataW H) → Bool := fun _ ds => decide (uptoBulkAll ds ≤ 1048576)
def OpenSpec.upto (s : _root_.Go.ChangeSpec) : _root_.Go.OpenSpec := { _root_.Go.OpenSpec.ofChange s with cond := some uptoSmall }

/-- 'gleanerlaw06.OffsCovers', WHERE WHAT IT READS IS OF BULK AT MOST 1048576: true; the input reads as it did. -/
def offsCoversUptoRow : OpenClaim := { program := "ytilhoimokegpjaa", sum := "799208182618eb3f40e2a9b085d98ee949a8220e6acad879b4a2ae562d93e3fe", func := "gleaner/gleanerlaw06.OffsCovers", spec := "offsCovers", unfollowed := true, recurses := true, apart := false, narrowed := true }
def OffsCoversUptoSaid : Prop := offsCoversUptoRow.holds Try.pinned (OpenSpec.upto offsCoversSpec)

/-- 'gleanerlaw06.OffsNil', WHERE WHAT IT READS IS OF BULK AT MOST 1048576: true; the input reads as it did. -/
def offsNilUptoRow : OpenClaim := { program := "ytilhoimokegpjaa", sum := "799208182618eb3f40e2a9b085d98ee949a8220e6acad879b4a2ae562d93e3fe", func := "gleaner/gleanerlaw06.OffsNil", spec := "offsNil", unfollowed := true, recurses := true, apart := false, narrowed := true }
def OffsNilUptoSaid : Prop := offsNilUptoRow.holds Try.pinned (OpenSpec.upto offsNilSpec)

/-- 'gleanerlaw02.GeomSpans', WHERE WHAT IT READS IS OF BULK AT MOST 1048576: true; the input reads as it did. -/
def geomSpansUptoRow : OpenClaim := { program := "ytilhoimokegpjaa", sum := "799208182618eb3f40e2a9b085d98ee949a8220e6acad879b4a2ae562d93e3fe", func := "gleaner/gleanerlaw02.GeomSpans", spec := "geomSpans", apart := false, narrowed := true }
def GeomSpansUptoSaid : Prop := geomSpansUptoRow.holds Try.pinned (OpenSpec.upto geomSpansSpec)

/-- 'gleanerlaw02.GeomAll', WHERE WHAT IT READS IS OF BULK AT MOST 1048576: true; the input reads as it did. -/
def geomAllUptoRow : OpenClaim := { program := "ytilhoimokegpjaa", sum := "799208182618eb3f40e2a9b085d98ee949a8220e6acad879b4a2ae562d93e3fe", func := "gleaner/gleanerlaw02.GeomAll", spec := "geomAll", apart := false, narrowed := true }
def GeomAllUptoSaid : Prop := geomAllUptoRow.holds Try.pinned (OpenSpec.upto geomAllSpec)

/-- 'gleanerlaw02.GeomPlaces', WHERE WHAT IT READS IS OF BULK AT MOST 1048576: true; the input reads as it did. -/
def geomPlacesUptoRow : OpenClaim := { program := "ytilhoimokegpjaa", sum := "799208182618eb3f40e2a9b085d98ee949a8220e6acad879b4a2ae562d93e3fe", func := "gleaner/gleanerlaw02.GeomPlaces", spec := "geomPlaces", apart := false, narrowed := true }
def GeomPlacesUptoSaid : Prop := geomPlacesUptoRow.holds Try.pinned (OpenSpec.upto geomPlacesSpec)

/-- 'gleanerlaw09.CardsNotes', WHERE WHAT IT READS IS OF BULK AT MOST 1048576: true; the input reads as it did. -/
def cardsNotesUptoRow : OpenClaim := { program := "ytilhoimokegpjaa", sum := "799208182618eb3f40e2a9b085d98ee949a8220e6acad879b4a2ae562d93e3fe", func := "gleaner/gleanerlaw09.CardsNotes", spec := "cardsNotes", apart := false, narrowed := true }
def CardsNotesUptoSaid : Prop := cardsNotesUptoRow.holds Try.pinned (OpenSpec.upto cardsNotesSpec)

/-- 'gleanerlaw07.RegionApart', WHERE WHAT IT READS IS OF BULK AT MOST 1048576: true; the input reads as it did. -/
def regionApartUptoRow : OpenClaim := { program := "ytilhoimokegpjaa", sum := "799208182618eb3f40e2a9b085d98ee949a8220e6acad879b4a2ae562d93e3fe", func := "gleaner/gleanerlaw07.RegionApart", spec := "regionApart", apart := false, narrowed := true }
def RegionApartUptoSaid : Prop := regionApartUptoRow.holds Try.pinned (OpenSpec.upto regionApartSpec)

/-- 'gleanerlaw07.RegionStates', WHERE WHAT IT READS IS OF BULK AT MOST 1048576: true; the input reads as it did. -/
def regionStatesUptoRow : OpenClaim := { program := "ytilhoimokegpjaa", sum := "799208182618eb3f40e2a9b085d98ee949a8220e6acad879b4a2ae562d93e3fe", func := "gleaner/gleanerlaw07.RegionStates", spec := "regionStates", apart := false, narrowed := true }
def RegionStatesUptoSaid : Prop := regionStatesUptoRow.holds Try.pinned (OpenSpec.upto regionStatesSpec)

end Rows
end Go.Proofs.Ytilhoimokegpjaa
