/-
  No cell of these rows narrows 'for every input' (looked for: loops, veiled, ifaces, maps, wideKeys, modest, calm, conditions, laid).
  DERIVED. THE GIVEN ROWS OF THIS SEAT. 6 by the template 'for every input the law returns true; each argument reads behind the call as it read before'; 0 by the template 'total and deterministic' (their statements: YtacikhcdbmkloaaTotals.lean).
  GIVEN WITH THE SEED: the statements are not yours to turn. If you find one false, say at which input.
  Laid BY PROGRAM, IN A SANDBOX (cutbox-rows.mjs): the forced cells as the released guide's own fill.sh prints them over the translation f847a2bbc090e7d7… (all of the seat's roots in one cut). By AI agents, Wed Nov 11 2026. No macro, syntax, notation, axiom, sorry.
-/
import Derived.Test.YtacikhcdbmkloaaChecked
import GoSem.Claim
import GoSem.ClaimJoined
import GoSem.ClaimMapViews
import Derived.JoinedTies
import Derived.KernelRfl
namespace Go.Proofs.Ytacikhcdbmkloaa
/- THE CELL 'sum', in the pinned program and in every row, IS THE sha256 OF THE DUMP (.gsa) THAT YtacikhcdbmkloaaProg.lean LOADS. Nothing in Lean hashes anything: it is a label: what it is worth is what the hold of that sum in a sandbox is worth. -/
noncomputable def Try.pinned : Pinned := { name := "ytacikhcdbmkloaa", sum := "f847a2bbc090e7d732ae8d6bc05373b293a314b04aff91ada46550b8eb357325", checked := Try.checked }
namespace Rows
def none {H : Type} : Left H := { results := [], args := [] }

/-- 'laws.FnExactRentCost': WHATEVER THE INPUT: true; the input reads as it did. -/
def fnExactRentCostSpec : ChangeSpec := { name := "fnExactRentCost", fn := fun _ => fun
  | [d1, d2, d3] => { results := [.lit (.bool true)], args := [d1, d2, d3] }
  | _ => none }
def fnExactRentCostRow : OpenClaim := { program := "ytacikhcdbmkloaa", sum := "f847a2bbc090e7d732ae8d6bc05373b293a314b04aff91ada46550b8eb357325", func := "loop.example/g01346/laws.FnExactRentCost", spec := "fnExactRentCost", apart := false }
def FnExactRentCostSaid : Prop := fnExactRentCostRow.holds Try.pinned (OpenSpec.ofChange fnExactRentCostSpec)

/-- ITS FALSE NEIGHBOUR: 'it returns false'. Refute it at one input. -/
def fnExactRentCostWrong : ChangeSpec := { name := "fnExactRentCost", fn := fun _ => fun
  | [d1, d2, d3] => { results := [.lit (.bool false)], args := [d1, d2, d3] }
  | _ => none }
def FnExactRentCostWrongFalsely : Prop := fnExactRentCostRow.holds Try.pinned (OpenSpec.ofChange fnExactRentCostWrong)

/-- 'laws.FnExactPickAfter': WHATEVER THE INPUT: true; the input reads as it did. -/
def fnExactPickAfterSpec : ChangeSpec := { name := "fnExactPickAfter", fn := fun _ => fun
  | [d1, d2] => { results := [.lit (.bool true)], args := [d1, d2] }
  | _ => none }
def fnExactPickAfterRow : OpenClaim := { program := "ytacikhcdbmkloaa", sum := "f847a2bbc090e7d732ae8d6bc05373b293a314b04aff91ada46550b8eb357325", func := "loop.example/g01346/laws.FnExactPickAfter", spec := "fnExactPickAfter", apart := false }
def FnExactPickAfterSaid : Prop := fnExactPickAfterRow.holds Try.pinned (OpenSpec.ofChange fnExactPickAfterSpec)

/-- ITS FALSE NEIGHBOUR: 'it returns false'. Refute it at one input. -/
def fnExactPickAfterWrong : ChangeSpec := { name := "fnExactPickAfter", fn := fun _ => fun
  | [d1, d2] => { results := [.lit (.bool false)], args := [d1, d2] }
  | _ => none }
def FnExactPickAfterWrongFalsely : Prop := fnExactPickAfterRow.holds Try.pinned (OpenSpec.ofChange fnExactPickAfterWrong)

/-- 'laws.FnExactIsClause': WHATEVER THE INPUT: true; the input reads as it did. -/
def fnExactIsClauseSpec : ChangeSpec := { name := "fnExactIsClause", fn := fun _ => fun
  | [d1, d2] => { results := [.lit (.bool true)], args := [d1, d2] }
  | _ => none }
def fnExactIsClauseRow : OpenClaim := { program := "ytacikhcdbmkloaa", sum := "f847a2bbc090e7d732ae8d6bc05373b293a314b04aff91ada46550b8eb357325", func := "loop.example/g01346/laws.FnExactIsClause", spec := "fnExactIsClause", apart := false }
def FnExactIsClauseSaid : Prop := fnExactIsClauseRow.holds Try.pinned (OpenSpec.ofChange fnExactIsClauseSpec)

/-- ITS FALSE NEIGHBOUR: 'it returns false'. Refute it at one input. -/
def fnExactIsClauseWrong : ChangeSpec := { name := "fnExactIsClause", fn := fun _ => fun
  | [d1, d2] => { results := [.lit (.bool false)], args := [d1, d2] }
  | _ => none }
def FnExactIsClauseWrongFalsely : Prop := fnExactIsClauseRow.holds Try.pinned (OpenSpec.ofChange fnExactIsClauseWrong)

/-- 'laws.FnExactAreSpans': WHATEVER THE INPUT: true; the input reads as it did. -/
def fnExactAreSpansSpec : ChangeSpec := { name := "fnExactAreSpans", fn := fun _ => fun
  | [d] => { results := [.lit (.bool true)], args := [d] }
  | _ => none }
def fnExactAreSpansRow : OpenClaim := { program := "ytacikhcdbmkloaa", sum := "f847a2bbc090e7d732ae8d6bc05373b293a314b04aff91ada46550b8eb357325", func := "loop.example/g01346/laws.FnExactAreSpans", spec := "fnExactAreSpans", apart := false }
def FnExactAreSpansSaid : Prop := fnExactAreSpansRow.holds Try.pinned (OpenSpec.ofChange fnExactAreSpansSpec)

/-- ITS FALSE NEIGHBOUR: 'it returns false'. Refute it at one input. -/
def fnExactAreSpansWrong : ChangeSpec := { name := "fnExactAreSpans", fn := fun _ => fun
  | [d] => { results := [.lit (.bool false)], args := [d] }
  | _ => none }
def FnExactAreSpansWrongFalsely : Prop := fnExactAreSpansRow.holds Try.pinned (OpenSpec.ofChange fnExactAreSpansWrong)

/-- 'laws.FnExactAreJobs': WHATEVER THE INPUT: true; the input reads as it did. -/
def fnExactAreJobsSpec : ChangeSpec := { name := "fnExactAreJobs", fn := fun _ => fun
  | [d] => { results := [.lit (.bool true)], args := [d] }
  | _ => none }
def fnExactAreJobsRow : OpenClaim := { program := "ytacikhcdbmkloaa", sum := "f847a2bbc090e7d732ae8d6bc05373b293a314b04aff91ada46550b8eb357325", func := "loop.example/g01346/laws.FnExactAreJobs", spec := "fnExactAreJobs", apart := false }
def FnExactAreJobsSaid : Prop := fnExactAreJobsRow.holds Try.pinned (OpenSpec.ofChange fnExactAreJobsSpec)

/-- ITS FALSE NEIGHBOUR: 'it returns false'. Refute it at one input. -/
def fnExactAreJobsWrong : ChangeSpec := { name := "fnExactAreJobs", fn := fun _ => fun
  | [d] => { results := [.lit (.bool false)], args := [d] }
  | _ => none }
def FnExactAreJobsWrongFalsely : Prop := fnExactAreJobsRow.holds Try.pinned (OpenSpec.ofChange fnExactAreJobsWrong)

/-- 'laws.FnExactShrinkList': WHATEVER THE INPUT: true; the input reads as it did. -/
def fnExactShrinkListSpec : ChangeSpec := { name := "fnExactShrinkList", fn := fun _ => fun
  | [d1, d2] => { results := [.lit (.bool true)], args := [d1, d2] }
  | _ => none }
def fnExactShrinkListRow : OpenClaim := { program := "ytacikhcdbmkloaa", sum := "f847a2bbc090e7d732ae8d6bc05373b293a314b04aff91ada46550b8eb357325", func := "loop.example/g01346/laws.FnExactShrinkList", spec := "fnExactShrinkList", apart := false }
def FnExactShrinkListSaid : Prop := fnExactShrinkListRow.holds Try.pinned (OpenSpec.ofChange fnExactShrinkListSpec)

/-- ITS FALSE NEIGHBOUR: 'it returns false'. Refute it at one input. -/
def fnExactShrinkListWrong : ChangeSpec := { name := "fnExactShrinkList", fn := fun _ => fun
  | [d1, d2] => { results := [.lit (.bool false)], args := [d1, d2] }
  | _ => none }
def FnExactShrinkListWrongFalsely : Prop := fnExactShrinkListRow.holds Try.pinned (OpenSpec.ofChange fnExactShrinkListWrong)

/- THE SECOND FORM. 'bulk': how many values and letters a reading holds, each counted each time it is reached (what is shared counts as often as it is met; a slice's spare places count too). A statement '..UptoSaid' is the law's where the arguments, and the package variables that the reading takes, are together of bulk at most 1048576: NARROWER than '..Said'. Prove '..Said' where nothing that the law and all that it calls make is longer than what came in: it says more and counts as full. Else prove '..UptoSaid'. A law counts once. -/
mutual
def uptoBulk {H : Type} : DataW H → Nat
  | .lit (.string bytes) => bytes.length + 1
  | .lit _ => 1
  | .nil => 1
  | .ptr d => uptoBulk d + 1
  | .slice elems spare => uptoBulkAll elems + uptoBulkAll spare + 1
  | .agg parts => uptoBulkAll parts + 1
  | .iface _ d => uptoBulk d + 1
  | .map entries => uptoBulkEntries entries + 1
  | .held _ => 1
def uptoBulkAll {H : Type} : List (DataW H) → Nat
  | [] => 0
  | d :: r => uptoBulk d + uptoBulkAll r
def uptoBulkEntries {H : Type} : List (Lit × DataW H) → Nat
  | [] => 0
  | x :: r => uptoBulkEntry x + uptoBulkEntries r
def uptoBulkEntry {H : Type} : Lit × DataW H → Nat
  | (.string bytes, d) => bytes.length + uptoBulk d + 1
  | (_, d) => uptoBulk d + 1
 end
def uptoSmall : (H : Type) → List (DataW H) → Bool := fun _ ds => decide (uptoBulkAll ds ≤ 1048576)
def OpenSpec.upto (s : _root_.Go.ChangeSpec) : _root_.Go.OpenSpec := { _root_.Go.OpenSpec.ofChange s with cond := some uptoSmall }

/-- 'laws.FnExactRentCost', WHERE WHAT IT READS IS OF BULK AT MOST 1048576: true; the input reads as it did. -/
def fnExactRentCostUptoRow : OpenClaim := { program := "ytacikhcdbmkloaa", sum := "f847a2bbc090e7d732ae8d6bc05373b293a314b04aff91ada46550b8eb357325", func := "loop.example/g01346/laws.FnExactRentCost", spec := "fnExactRentCost", apart := false, narrowed := true }
def FnExactRentCostUptoSaid : Prop := fnExactRentCostUptoRow.holds Try.pinned (OpenSpec.upto fnExactRentCostSpec)

/-- 'laws.FnExactPickAfter', WHERE WHAT IT READS IS OF BULK AT MOST 1048576: true; the input reads as it did. -/
def fnExactPickAfterUptoRow : OpenClaim := { program := "ytacikhcdbmkloaa", sum := "f847a2bbc090e7d732ae8d6bc05373b293a314b04aff91ada46550b8eb357325", func := "loop.example/g01346/laws.FnExactPickAfter", spec := "fnExactPickAfter", apart := false, narrowed := true }
def FnExactPickAfterUptoSaid : Prop := fnExactPickAfterUptoRow.holds Try.pinned (OpenSpec.upto fnExactPickAfterSpec)

/-- 'laws.FnExactIsClause', WHERE WHAT IT READS IS OF BULK AT MOST 1048576: true; the input reads as it did. -/
def fnExactIsClauseUptoRow : OpenClaim := { program := "ytacikhcdbmkloaa", sum := "f847a2bbc090e7d732ae8d6bc05373b293a314b04aff91ada46550b8eb357325", func := "loop.example/g01346/laws.FnExactIsClause", spec := "fnExactIsClause", apart := false, narrowed := true }
def FnExactIsClauseUptoSaid : Prop := fnExactIsClauseUptoRow.holds Try.pinned (OpenSpec.upto fnExactIsClauseSpec)

/-- 'laws.FnExactAreSpans', WHERE WHAT IT READS IS OF BULK AT MOST 1048576: true; the input reads as it did. -/
def fnExactAreSpansUptoRow : OpenClaim := { program := "ytacikhcdbmkloaa", sum := "f847a2bbc090e7d732ae8d6bc05373b293a314b04aff91ada46550b8eb357325", func := "loop.example/g01346/laws.FnExactAreSpans", spec := "fnExactAreSpans", apart := false, narrowed := true }
def FnExactAreSpansUptoSaid : Prop := fnExactAreSpansUptoRow.holds Try.pinned (OpenSpec.upto fnExactAreSpansSpec)

/-- 'laws.FnExactAreJobs', WHERE WHAT IT READS IS OF BULK AT MOST 1048576: true; the input reads as it did. -/
def fnExactAreJobsUptoRow : OpenClaim := { program := "ytacikhcdbmkloaa", sum := "f847a2bbc090e7d732ae8d6bc05373b293a314b04aff91ada46550b8eb357325", func := "loop.example/g01346/laws.FnExactAreJobs", spec := "fnExactAreJobs", apart := false, narrowed := true }
def FnExactAreJobsUptoSaid : Prop := fnExactAreJobsUptoRow.holds Try.pinned (OpenSpec.upto fnExactAreJobsSpec)

/-- 'laws.FnExactShrinkList', WHERE WHAT IT READS IS OF BULK AT MOST 1048576: true; the input reads as it did. -/
def fnExactShrinkListUptoRow : OpenClaim := { program := "ytacikhcdbmkloaa", sum := "f847a2bbc090e7d732ae8d6bc05373b293a314b04aff91ada46550b8eb357325", func := "loop.example/g01346/laws.FnExactShrinkList", spec := "fnExactShrinkList", apart := false, narrowed := true }
def FnExactShrinkListUptoSaid : Prop := fnExactShrinkListUptoRow.holds Try.pinned (OpenSpec.upto fnExactShrinkListSpec)

end Rows
end Go.Proofs.Ytacikhcdbmkloaa
