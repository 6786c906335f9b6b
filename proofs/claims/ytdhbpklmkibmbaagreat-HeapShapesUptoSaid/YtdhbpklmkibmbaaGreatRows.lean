/-
  No cell of these rows narrows 'for every input' (looked for: loops, veiled, ifaces, maps, wideKeys, modest, calm, conditions, laid).
  DERIVED. THE GIVEN ROWS OF THIS SEAT. 5 by the template 'for every input the law returns true; each argument reads behind the call as it read before'; 0 by the template 'total and deterministic' (their statements: YtdhbpklmkibmbaaGreatTotals.lean).
  GIVEN WITH THE SEED: the statements are not yours to turn. If you find one false, say at which input.
  Laid BY PROGRAM, IN A SANDBOX (cutbox-rows.mjs): the forced cells as the released guide's own fill.sh prints them over the translation dccc3af54e5ebb0c… (all of the seat's roots in one cut). By AI agents, Wed Nov 11 2026. No macro, syntax, notation, axiom, sorry.
-/
import Derived.Test.YtdhbpklmkibmbaaGreatChecked
import GoSem.Claim
import GoSem.ClaimJoined
import GoSem.ClaimMapViews
import Derived.JoinedTies
import Derived.KernelRfl
namespace Go.Proofs.YtdhbpklmkibmbaaGreat
/- THE CELL 'sum', in the pinned program and in every row, IS THE sha256 OF THE DUMP (.gsa) THAT YtdhbpklmkibmbaaGreatProg.lean LOADS. Nothing in Lean hashes anything: it is a label: what it is worth is what the hold of that sum in a sandbox is worth. -/
noncomputable def Tryz.pinned : Pinned := { name := "ytdhbpklmkibmbaagreat", sum := "dccc3af54e5ebb0c270cc0e3c350e1c2445ad95cd91256b0bdb81223c56a3183", checked := Tryz.checked }
namespace Rows
def none {H : Type} : Left H := { results := [], args := [] }

/-- 'gleanerlaw14.HeapNil': WHATEVER THE INPUT: true; the input reads as it did. -/
def heapNilSpec : ChangeSpec := { name := "heapNil", fn := fun _ => fun
  | [d] => { results := [.lit (.bool true)], args := [d] }
  | _ => none }
def heapNilRow : OpenClaim := { program := "ytdhbpklmkibmbaagreat", sum := "dccc3af54e5ebb0c270cc0e3c350e1c2445ad95cd91256b0bdb81223c56a3183", func := "gleaner/gleanerlaw14.HeapNil", spec := "heapNil", unfollowed := true, recurses := true, plainKeys := false, apart := false }
def HeapNilSaid : Prop := heapNilRow.holds Tryz.pinned (OpenSpec.ofChange heapNilSpec)

/-- ITS FALSE NEIGHBOUR: 'it returns false'. Refute it at one input. -/
def heapNilWrong : ChangeSpec := { name := "heapNil", fn := fun _ => fun
  | [d] => { results := [.lit (.bool false)], args := [d] }
  | _ => none }
def HeapNilWrongFalsely : Prop := heapNilRow.holds Tryz.pinned (OpenSpec.ofChange heapNilWrong)

/-- 'gleanerlaw15.MutateAnswers': WHATEVER THE INPUT: true; the input reads as it did. -/
def mutateAnswersSpec : ChangeSpec := { name := "mutateAnswers", fn := fun _ => fun
  | [d1, d2, d3] => { results := [.lit (.bool true)], args := [d1, d2, d3] }
  | _ => none }
def mutateAnswersRow : OpenClaim := { program := "ytdhbpklmkibmbaagreat", sum := "dccc3af54e5ebb0c270cc0e3c350e1c2445ad95cd91256b0bdb81223c56a3183", func := "gleaner/gleanerlaw15.MutateAnswers", spec := "mutateAnswers", unfollowed := true, recurses := true, plainKeys := false, apart := false }
def MutateAnswersSaid : Prop := mutateAnswersRow.holds Tryz.pinned (OpenSpec.ofChange mutateAnswersSpec)

/-- ITS FALSE NEIGHBOUR: 'it returns false'. Refute it at one input. -/
def mutateAnswersWrong : ChangeSpec := { name := "mutateAnswers", fn := fun _ => fun
  | [d1, d2, d3] => { results := [.lit (.bool false)], args := [d1, d2, d3] }
  | _ => none }
def MutateAnswersWrongFalsely : Prop := mutateAnswersRow.holds Tryz.pinned (OpenSpec.ofChange mutateAnswersWrong)

/-- 'gleanerlaw14.HeapShapes': WHATEVER THE INPUT: true; the input reads as it did. -/
def heapShapesSpec : ChangeSpec := { name := "heapShapes", fn := fun _ => fun
  | [d] => { results := [.lit (.bool true)], args := [d] }
  | _ => none }
def heapShapesRow : OpenClaim := { program := "ytdhbpklmkibmbaagreat", sum := "dccc3af54e5ebb0c270cc0e3c350e1c2445ad95cd91256b0bdb81223c56a3183", func := "gleaner/gleanerlaw14.HeapShapes", spec := "heapShapes", unfollowed := true, recurses := true, plainKeys := false, apart := false }
def HeapShapesSaid : Prop := heapShapesRow.holds Tryz.pinned (OpenSpec.ofChange heapShapesSpec)

/-- ITS FALSE NEIGHBOUR: 'it returns false'. Refute it at one input. -/
def heapShapesWrong : ChangeSpec := { name := "heapShapes", fn := fun _ => fun
  | [d] => { results := [.lit (.bool false)], args := [d] }
  | _ => none }
def HeapShapesWrongFalsely : Prop := heapShapesRow.holds Tryz.pinned (OpenSpec.ofChange heapShapesWrong)

/-- 'gleanerlaw14.HeapBroken': WHATEVER THE INPUT: true; the input reads as it did. -/
def heapBrokenSpec : ChangeSpec := { name := "heapBroken", fn := fun _ => fun
  | [d1, d2, d3, d4] => { results := [.lit (.bool true)], args := [d1, d2, d3, d4] }
  | _ => none }
def heapBrokenRow : OpenClaim := { program := "ytdhbpklmkibmbaagreat", sum := "dccc3af54e5ebb0c270cc0e3c350e1c2445ad95cd91256b0bdb81223c56a3183", func := "gleaner/gleanerlaw14.HeapBroken", spec := "heapBroken", unfollowed := true, recurses := true, plainKeys := false, apart := false }
def HeapBrokenSaid : Prop := heapBrokenRow.holds Tryz.pinned (OpenSpec.ofChange heapBrokenSpec)

/-- ITS FALSE NEIGHBOUR: 'it returns false'. Refute it at one input. -/
def heapBrokenWrong : ChangeSpec := { name := "heapBroken", fn := fun _ => fun
  | [d1, d2, d3, d4] => { results := [.lit (.bool false)], args := [d1, d2, d3, d4] }
  | _ => none }
def HeapBrokenWrongFalsely : Prop := heapBrokenRow.holds Tryz.pinned (OpenSpec.ofChange heapBrokenWrong)

/-- 'gleanerlaw16.RefineNil': WHATEVER THE INPUT: true; the input reads as it did. -/
def refineNilSpec : ChangeSpec := { name := "refineNil", fn := fun _ => fun
  | [d] => { results := [.lit (.bool true)], args := [d] }
  | _ => none }
def refineNilRow : OpenClaim := { program := "ytdhbpklmkibmbaagreat", sum := "dccc3af54e5ebb0c270cc0e3c350e1c2445ad95cd91256b0bdb81223c56a3183", func := "gleaner/gleanerlaw16.RefineNil", spec := "refineNil", unfollowed := true, recurses := true, plainKeys := false, apart := false }
def RefineNilSaid : Prop := refineNilRow.holds Tryz.pinned (OpenSpec.ofChange refineNilSpec)

/-- ITS FALSE NEIGHBOUR: 'it returns false'. Refute it at one input. -/
def refineNilWrong : ChangeSpec := { name := "refineNil", fn := fun _ => fun
  | [d] => { results := [.lit (.bool false)], args := [d] }
  | _ => none }
def RefineNilWrongFalsely : Prop := refineNilRow.holds Tryz.pinned (OpenSpec.ofChange refineNilWrong)

/- THE SECOND FORM. 'bulk': how many values and letters a reading holds, each counted each time it is reached (what is shared counts as often as it is met; a slice's spare places count too). A statement '..UptoSaid' is the law's where the arguments, and the package variables that the reading takes, are together of bulk at most 1048576: NARROWER than '..Said'. Prove '..Said' where nothing that the law and all that it calls make is longer than what came in: it says more and counts as full. Else prove '..UptoSaid'. A law counts once. -/
mutual
def uptoBulk {H : Type} : DataW H → Nat
  | .lit (.string bytes) => bytes.length + 1
  | .lit _ => 1
  | .nil => 1
  | .ptr d => uptoBulk d + 1
  | .slice elems spare => uptoBulkAll elems + uptoBulkAll spare + 1
  | .agg parts => uptoBulkAll parts + 1
  | .iface _ d => uptoBulk d + 1
  | .map entries => uptoBulkEntries entries + 1
  | .held _ => 1
def uptoBulkAll {H : Type} : List (DataW H) → Nat
  | [] => 0
  | d :: r => uptoBulk d + uptoBulkAll r
def uptoBulkEntries {H : Type} : List (Lit × DataW H) → Nat
  | [] => 0
  | x :: r => uptoBulkEntry x + uptoBulkEntries r
def uptoBulkEntry {H : Type} : Lit × DataW H → Nat
  | (.string bytes, d) => bytes.length + uptoBulk d + 1
  | (_, d) => uptoBulk d + 1
 end
def uptoSmall : (H : Type) → List (DataW H) → Bool := fun _ ds => decide (uptoBulkAll ds ≤ 1048576)
def OpenSpec.upto (s : _root_.Go.ChangeSpec) : _root_.Go.OpenSpec := { _root_.Go.OpenSpec.ofChange s with cond := some uptoSmall }

/-- 'gleanerlaw14.HeapNil', WHERE WHAT IT READS IS OF BULK AT MOST 1048576: true; the input reads as it did. -/
def heapNilUptoRow : OpenClaim := { program := "ytdhbpklmkibmbaagreat", sum := "dccc3af54e5ebb0c270cc0e3c350e1c2445ad95cd91256b0bdb81223c56a3183", func := "gleaner/gleanerlaw14.HeapNil", spec := "heapNil", unfollowed := true, recurses := true, plainKeys := false, apart := false, narrowed := true }
def HeapNilUptoSaid : Prop := heapNilUptoRow.holds Tryz.pinned (OpenSpec.upto heapNilSpec)

/-- 'gleanerlaw15.MutateAnswers', WHERE WHAT IT READS IS OF BULK AT MOST 1048576: true; the input reads as it did. -/
def mutateAnswersUptoRow : OpenClaim := { program := "ytdhbpklmkibmbaagreat", sum := "dccc3af54e5ebb0c270cc0e3c350e1c2445ad95cd91256b0bdb81223c56a3183", func := "gleaner/gleanerlaw15.MutateAnswers", spec := "mutateAnswers", unfollowed := true, recurses := true, plainKeys := false, apart := false, narrowed := true }
def MutateAnswersUptoSaid : Prop := mutateAnswersUptoRow.holds Tryz.pinned (OpenSpec.upto mutateAnswersSpec)

/-- 'gleanerlaw14.HeapShapes', WHERE WHAT IT READS IS OF BULK AT MOST 1048576: true; the input reads as it did. -/
def heapShapesUptoRow : OpenClaim := { program := "ytdhbpklmkibmbaagreat", sum := "dccc3af54e5ebb0c270cc0e3c350e1c2445ad95cd91256b0bdb81223c56a3183", func := "gleaner/gleanerlaw14.HeapShapes", spec := "heapShapes", unfollowed := true, recurses := true, plainKeys := false, apart := false, narrowed := true }
def HeapShapesUptoSaid : Prop := heapShapesUptoRow.holds Tryz.pinned (OpenSpec.upto heapShapesSpec)

/-- 'gleanerlaw14.HeapBroken', WHERE WHAT IT READS IS OF BULK AT MOST 1048576: true; the input reads as it did. -/
def heapBrokenUptoRow : OpenClaim := { program := "ytdhbpklmkibmbaagreat", sum := "dccc3af54e5ebb0c270cc0e3c350e1c2445ad95cd91256b0bdb81223c56a3183", func := "gleaner/gleanerlaw14.HeapBroken", spec := "heapBroken", unfollowed := true, recurses := true, plainKeys := false, apart := false, narrowed := true }
def HeapBrokenUptoSaid : Prop := heapBrokenUptoRow.holds Tryz.pinned (OpenSpec.upto heapBrokenSpec)

/-- 'gleanerlaw16.RefineNil', WHERE WHAT IT READS IS OF BULK AT MOST 1048576: true; the input reads as it did. -/
def refineNilUptoRow : OpenClaim := { program := "ytdhbpklmkibmbaagreat", sum := "dccc3af54e5ebb0c270cc0e3c350e1c2445ad95cd91256b0bdb81223c56a3183", func := "gleaner/gleanerlaw16.RefineNil", spec := "refineNil", unfollowed := true, recurses := true, plainKeys := false, apart := false, narrowed := true }
def RefineNilUptoSaid : Prop := refineNilUptoRow.holds Tryz.pinned (OpenSpec.upto refineNilSpec)

end Rows
end Go.Proofs.YtdhbpklmkibmbaaGreat
