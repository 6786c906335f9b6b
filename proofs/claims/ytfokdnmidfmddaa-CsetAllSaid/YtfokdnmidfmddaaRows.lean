/-
  No cell of these rows narrows 'for every input' (looked for: loops, veiled, ifaces, maps, wideKeys, modest, calm, conditions, laid).
  DERIVED. THE GIVEN ROWS OF THIS SEAT. 3 by the template 'for every input the law returns true; each argument reads behind the call as it read before'; 0 by the template 'total and deterministic' (their statements: YtfokdnmidfmddaaTotals.lean).
  GIVEN WITH THE SEED: the statements are not yours to turn. If you find one false, say at which input.
  Laid BY PROGRAM, IN A SANDBOX (cutbox-rows.mjs): the forced cells as the released guide's own fill.sh prints them over the translation bb112eb6fd772a5e… (all of the seat's roots in one cut). By AI agents, Wed Nov 11 2026. No macro, syntax, notation, axiom, sorry.
-/
import Derived.Test.YtfokdnmidfmddaaChecked
import GoSem.Claim
import GoSem.ClaimJoined
import GoSem.ClaimMapViews
import Derived.JoinedTies
import Derived.KernelRfl
namespace Go.Proofs.Ytfokdnmidfmddaa
/- THE CELL 'sum', in the pinned program and in every row, IS THE sha256 OF THE DUMP (.gsa) THAT YtfokdnmidfmddaaProg.lean LOADS. Nothing in Lean hashes anything: it is a label: what it is worth is what the hold of that sum in a sandbox is worth. -/
noncomputable def Try.pinned : Pinned := { name := "ytfokdnmidfmddaa", sum := "bb112eb6fd772a5ecf7ba65f9eda57c3f14dc393a2f748095f5454fa193b6dfd", checked := Try.checked }
namespace Rows
def none {H : Type} : Left H := { results := [], args := [] }

/-- 'gleanerlaw18.CsetAll': WHATEVER THE INPUT: true; the input reads as it did. -/
def csetAllSpec : ChangeSpec := { name := "csetAll", fn := fun _ => fun
  | [d1, d2, d3] => { results := [.lit (.bool true)], args := [d1, d2, d3] }
  | _ => none }
def csetAllRow : OpenClaim := { program := "ytfokdnmidfmddaa", sum := "bb112eb6fd772a5ecf7ba65f9eda57c3f14dc393a2f748095f5454fa193b6dfd", func := "gleaner/gleanerlaw18.CsetAll", spec := "csetAll", unfollowed := true, recurses := true, apart := false }
def CsetAllSaid : Prop := csetAllRow.holds Try.pinned (OpenSpec.ofChange csetAllSpec)

/-- ITS FALSE NEIGHBOUR: 'it returns false'. Refute it at one input. -/
def csetAllWrong : ChangeSpec := { name := "csetAll", fn := fun _ => fun
  | [d1, d2, d3] => { results := [.lit (.bool false)], args := [d1, d2, d3] }
  | _ => none }
def CsetAllWrongFalsely : Prop := csetAllRow.holds Try.pinned (OpenSpec.ofChange csetAllWrong)

/-- 'gleanerlaw18.CsetBudget': WHATEVER THE INPUT: true; the input reads as it did. -/
def csetBudgetSpec : ChangeSpec := { name := "csetBudget", fn := fun _ => fun
  | [d1, d2] => { results := [.lit (.bool true)], args := [d1, d2] }
  | _ => none }
def csetBudgetRow : OpenClaim := { program := "ytfokdnmidfmddaa", sum := "bb112eb6fd772a5ecf7ba65f9eda57c3f14dc393a2f748095f5454fa193b6dfd", func := "gleaner/gleanerlaw18.CsetBudget", spec := "csetBudget", unfollowed := true, recurses := true, apart := false }
def CsetBudgetSaid : Prop := csetBudgetRow.holds Try.pinned (OpenSpec.ofChange csetBudgetSpec)

/-- ITS FALSE NEIGHBOUR: 'it returns false'. Refute it at one input. -/
def csetBudgetWrong : ChangeSpec := { name := "csetBudget", fn := fun _ => fun
  | [d1, d2] => { results := [.lit (.bool false)], args := [d1, d2] }
  | _ => none }
def CsetBudgetWrongFalsely : Prop := csetBudgetRow.holds Try.pinned (OpenSpec.ofChange csetBudgetWrong)

/-- 'gleanerlaw18.CsetKeeps': WHATEVER THE INPUT: true; the input reads as it did. -/
def csetKeepsSpec : ChangeSpec := { name := "csetKeeps", fn := fun _ => fun
  | [d1, d2, d3] => { results := [.lit (.bool true)], args := [d1, d2, d3] }
  | _ => none }
def csetKeepsRow : OpenClaim := { program := "ytfokdnmidfmddaa", sum := "bb112eb6fd772a5ecf7ba65f9eda57c3f14dc393a2f748095f5454fa193b6dfd", func := "gleaner/gleanerlaw18.CsetKeeps", spec := "csetKeeps", unfollowed := true, recurses := true, apart := false }
def CsetKeepsSaid : Prop := csetKeepsRow.holds Try.pinned (OpenSpec.ofChange csetKeepsSpec)

/-- ITS FALSE NEIGHBOUR: 'it returns false'. Refute it at one input. -/
def csetKeepsWrong : ChangeSpec := { name := "csetKeeps", fn := fun _ => fun
  | [d1, d2, d3] => { results := [.lit (.bool false)], args := [d1, d2, d3] }
  | _ => none }
def CsetKeepsWrongFalsely : Prop := csetKeepsRow.holds Try.pinned (OpenSpec.ofChange csetKeepsWrong)

/- THE SECOND FORM. 'bulk': how many values and letters a reading holds, each counted each time it is reached (what is shared counts as often as it is met; a slice's spare places count too). A statement '..UptoSaid' is the law's where the arguments, and the package variables that the reading takes, are together of bulk at most 1048576: NARROWER than '..Said'. Prove '..Said' where nothing that the law and all that it calls make is longer than what came in: it says more and counts as full. Else prove '..UptoSaid'. A law counts once. -/
mutual
def uptoBulk {H : Type} : DataW H → Nat
  | .lit (.string bytes) => bytes.length + 1
  | .lit _ => 1
  | .nil => 1
  | .ptr d => uptoBulk d + 1
  | .slice elems spare => uptoBulkAll elems + uptoBulkAll spare + 1
  | .agg parts => uptoBulkAll parts + 1
  | .iface _ d => uptoBulk d + 1
  | .map entries => uptoBulkEntries entries + 1
  | .held _ => 1
def uptoBulkAll {H : Type} : List (DataW H) → Nat
  | [] => 0
  | d :: r => uptoBulk d + uptoBulkAll r
def uptoBulkEntries {H : Type} : List (Lit × DataW H) → Nat
  | [] => 0
  | x :: r => uptoBulkEntry x + uptoBulkEntries r
def uptoBulkEntry {H : Type} : Lit × DataW H → Nat
  | (.string bytes, d) => bytes.length + uptoBulk d + 1
  | (_, d) => uptoBulk d + 1
 end
def uptoSmall : (H : Type) → List (DataW H) → Bool := fun _ ds => decide (uptoBulkAll ds ≤ 1048576)
def OpenSpec.upto (s : _root_.Go.ChangeSpec) : _root_.Go.OpenSpec := { _root_.Go.OpenSpec.ofChange s with cond := some uptoSmall }

/-- 'gleanerlaw18.CsetAll', WHERE WHAT IT READS IS OF BULK AT MOST 1048576: true; the input reads as it did. -/
def csetAllUptoRow : OpenClaim := { program := "ytfokdnmidfmddaa", sum := "bb112eb6fd772a5ecf7ba65f9eda57c3f14dc393a2f748095f5454fa193b6dfd", func := "gleaner/gleanerlaw18.CsetAll", spec := "csetAll", unfollowed := true, recurses := true, apart := false, narrowed := true }
def CsetAllUptoSaid : Prop := csetAllUptoRow.holds Try.pinned (OpenSpec.upto csetAllSpec)

/-- 'gleanerlaw18.CsetBudget', WHERE WHAT IT READS IS OF BULK AT MOST 1048576: true; the input reads as it did. -/
def csetBudgetUptoRow : OpenClaim := { program := "ytfokdnmidfmddaa", sum := "bb112eb6fd772a5ecf7ba65f9eda57c3f14dc393a2f748095f5454fa193b6dfd", func := "gleaner/gleanerlaw18.CsetBudget", spec := "csetBudget", unfollowed := true, recurses := true, apart := false, narrowed := true }
def CsetBudgetUptoSaid : Prop := csetBudgetUptoRow.holds Try.pinned (OpenSpec.upto csetBudgetSpec)

/-- 'gleanerlaw18.CsetKeeps', WHERE WHAT IT READS IS OF BULK AT MOST 1048576: true; the input reads as it did. -/
def csetKeepsUptoRow : OpenClaim := { program := "ytfokdnmidfmddaa", sum := "bb112eb6fd772a5ecf7ba65f9eda57c3f14dc393a2f748095f5454fa193b6dfd", func := "gleaner/gleanerlaw18.CsetKeeps", spec := "csetKeeps", unfollowed := true, recurses := true, apart := false, narrowed := true }
def CsetKeepsUptoSaid : Prop := csetKeepsUptoRow.holds Try.pinned (OpenSpec.upto csetKeepsSpec)

end Rows
end Go.Proofs.Ytfokdnmidfmddaa
