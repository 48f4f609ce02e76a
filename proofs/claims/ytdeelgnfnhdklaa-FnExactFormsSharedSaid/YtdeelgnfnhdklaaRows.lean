/-
  No cell of these rows narrows 'for every input' (looked for: loops, veiled, ifaces, maps, wideKeys, modest, calm, conditions, laid).
  DERIVED. THE GIVEN ROWS OF THIS SEAT. 12 by the template 'for every input the law returns true; each argument reads behind the call as it read before'; 0 by the template 'total and deterministic' (their statements: YtdeelgnfnhdklaaTotals.lean).
  GIVEN WITH THE SEED: the statements are not yours to turn. If you find one false, say at which input.
  Laid BY PROGRAM, IN A SANDBOX (cutbox-rows.mjs): the forced cells as the released guide's own fill.sh prints them over the translation f019dbb7e89ac1c5… (all of the seat's roots in one cut). By AI agents, Wed Nov 11 2026. No macro, syntax, notation, axiom, sorry.
-/
import Derived.Test.YtdeelgnfnhdklaaChecked
import GoSem.Claim
import GoSem.ClaimJoined
import GoSem.ClaimMapViews
import Derived.JoinedTies
import Derived.KernelRfl
namespace Go.Proofs.Ytdeelgnfnhdklaa
/- THE CELL 'sum', in the pinned program and in every row, IS THE sha256 OF THE DUMP (.gsa) THAT YtdeelgnfnhdklaaProg.lean LOADS. Nothing in Lean hashes anything: it is a label: what it is worth is what the hold of that sum in a sandbox is worth. -/
noncomputable def Try.pinned : Pinned := { name := "ytdeelgnfnhdklaa", sum := "f019dbb7e89ac1c56bd591b0727b0126705da6b9516788256adde54116fcc9d7", checked := Try.checked }
namespace Rows
def none {H : Type} : Left H := { results := [], args := [] }

/-- 'laws.FnExactAllSome': WHATEVER THE INPUT: true; the input reads as it did. -/
def fnExactAllSomeSpec : ChangeSpec := { name := "fnExactAllSome", fn := fun _ => fun
  | [d1, d2] => { results := [.lit (.bool true)], args := [d1, d2] }
  | _ => none }
def fnExactAllSomeRow : OpenClaim := { program := "ytdeelgnfnhdklaa", sum := "f019dbb7e89ac1c56bd591b0727b0126705da6b9516788256adde54116fcc9d7", func := "loop.example/g01346/laws.FnExactAllSome", spec := "fnExactAllSome", recurses := true, apart := false }
def FnExactAllSomeSaid : Prop := fnExactAllSomeRow.holds Try.pinned (OpenSpec.ofChange fnExactAllSomeSpec)

/-- ITS FALSE NEIGHBOUR: 'it returns false'. Refute it at one input. -/
def fnExactAllSomeWrong : ChangeSpec := { name := "fnExactAllSome", fn := fun _ => fun
  | [d1, d2] => { results := [.lit (.bool false)], args := [d1, d2] }
  | _ => none }
def FnExactAllSomeWrongFalsely : Prop := fnExactAllSomeRow.holds Try.pinned (OpenSpec.ofChange fnExactAllSomeWrong)

/-- 'laws.FnExactFirstMove': WHATEVER THE INPUT: true; the input reads as it did. -/
def fnExactFirstMoveSpec : ChangeSpec := { name := "fnExactFirstMove", fn := fun _ => fun
  | [d1, d2] => { results := [.lit (.bool true)], args := [d1, d2] }
  | _ => none }
def fnExactFirstMoveRow : OpenClaim := { program := "ytdeelgnfnhdklaa", sum := "f019dbb7e89ac1c56bd591b0727b0126705da6b9516788256adde54116fcc9d7", func := "loop.example/g01346/laws.FnExactFirstMove", spec := "fnExactFirstMove", recurses := true, apart := false }
def FnExactFirstMoveSaid : Prop := fnExactFirstMoveRow.holds Try.pinned (OpenSpec.ofChange fnExactFirstMoveSpec)

/-- ITS FALSE NEIGHBOUR: 'it returns false'. Refute it at one input. -/
def fnExactFirstMoveWrong : ChangeSpec := { name := "fnExactFirstMove", fn := fun _ => fun
  | [d1, d2] => { results := [.lit (.bool false)], args := [d1, d2] }
  | _ => none }
def FnExactFirstMoveWrongFalsely : Prop := fnExactFirstMoveRow.holds Try.pinned (OpenSpec.ofChange fnExactFirstMoveWrong)

/-- 'laws.FnExactIsProof': WHATEVER THE INPUT: true; the input reads as it did. -/
def fnExactIsProofSpec : ChangeSpec := { name := "fnExactIsProof", fn := fun _ => fun
  | [d1, d2] => { results := [.lit (.bool true)], args := [d1, d2] }
  | _ => none }
def fnExactIsProofRow : OpenClaim := { program := "ytdeelgnfnhdklaa", sum := "f019dbb7e89ac1c56bd591b0727b0126705da6b9516788256adde54116fcc9d7", func := "loop.example/g01346/laws.FnExactIsProof", spec := "fnExactIsProof", apart := false }
def FnExactIsProofSaid : Prop := fnExactIsProofRow.holds Try.pinned (OpenSpec.ofChange fnExactIsProofSpec)

/-- ITS FALSE NEIGHBOUR: 'it returns false'. Refute it at one input. -/
def fnExactIsProofWrong : ChangeSpec := { name := "fnExactIsProof", fn := fun _ => fun
  | [d1, d2] => { results := [.lit (.bool false)], args := [d1, d2] }
  | _ => none }
def FnExactIsProofWrongFalsely : Prop := fnExactIsProofRow.holds Try.pinned (OpenSpec.ofChange fnExactIsProofWrong)

/-- 'laws.FnExactUnitsOf': WHATEVER THE INPUT: true; the input reads as it did. -/
def fnExactUnitsOfSpec : ChangeSpec := { name := "fnExactUnitsOf", fn := fun _ => fun
  | [d1, d2] => { results := [.lit (.bool true)], args := [d1, d2] }
  | _ => none }
def fnExactUnitsOfRow : OpenClaim := { program := "ytdeelgnfnhdklaa", sum := "f019dbb7e89ac1c56bd591b0727b0126705da6b9516788256adde54116fcc9d7", func := "loop.example/g01346/laws.FnExactUnitsOf", spec := "fnExactUnitsOf", apart := false }
def FnExactUnitsOfSaid : Prop := fnExactUnitsOfRow.holds Try.pinned (OpenSpec.ofChange fnExactUnitsOfSpec)

/-- ITS FALSE NEIGHBOUR: 'it returns false'. Refute it at one input. -/
def fnExactUnitsOfWrong : ChangeSpec := { name := "fnExactUnitsOf", fn := fun _ => fun
  | [d1, d2] => { results := [.lit (.bool false)], args := [d1, d2] }
  | _ => none }
def FnExactUnitsOfWrongFalsely : Prop := fnExactUnitsOfRow.holds Try.pinned (OpenSpec.ofChange fnExactUnitsOfWrong)

/-- 'laws.FnExactCoreOf': WHATEVER THE INPUT: true; the input reads as it did. -/
def fnExactCoreOfSpec : ChangeSpec := { name := "fnExactCoreOf", fn := fun _ => fun
  | [d] => { results := [.lit (.bool true)], args := [d] }
  | _ => none }
def fnExactCoreOfRow : OpenClaim := { program := "ytdeelgnfnhdklaa", sum := "f019dbb7e89ac1c56bd591b0727b0126705da6b9516788256adde54116fcc9d7", func := "loop.example/g01346/laws.FnExactCoreOf", spec := "fnExactCoreOf", unfollowed := true, recurses := true, apart := false }
def FnExactCoreOfSaid : Prop := fnExactCoreOfRow.holds Try.pinned (OpenSpec.ofChange fnExactCoreOfSpec)

/-- ITS FALSE NEIGHBOUR: 'it returns false'. Refute it at one input. -/
def fnExactCoreOfWrong : ChangeSpec := { name := "fnExactCoreOf", fn := fun _ => fun
  | [d] => { results := [.lit (.bool false)], args := [d] }
  | _ => none }
def FnExactCoreOfWrongFalsely : Prop := fnExactCoreOfRow.holds Try.pinned (OpenSpec.ofChange fnExactCoreOfWrong)

/-- 'laws.FnExactHornModel': WHATEVER THE INPUT: true; the input reads as it did. -/
def fnExactHornModelSpec : ChangeSpec := { name := "fnExactHornModel", fn := fun _ => fun
  | [d] => { results := [.lit (.bool true)], args := [d] }
  | _ => none }
def fnExactHornModelRow : OpenClaim := { program := "ytdeelgnfnhdklaa", sum := "f019dbb7e89ac1c56bd591b0727b0126705da6b9516788256adde54116fcc9d7", func := "loop.example/g01346/laws.FnExactHornModel", spec := "fnExactHornModel", unfollowed := true, recurses := true, apart := false }
def FnExactHornModelSaid : Prop := fnExactHornModelRow.holds Try.pinned (OpenSpec.ofChange fnExactHornModelSpec)

/-- ITS FALSE NEIGHBOUR: 'it returns false'. Refute it at one input. -/
def fnExactHornModelWrong : ChangeSpec := { name := "fnExactHornModel", fn := fun _ => fun
  | [d] => { results := [.lit (.bool false)], args := [d] }
  | _ => none }
def FnExactHornModelWrongFalsely : Prop := fnExactHornModelRow.holds Try.pinned (OpenSpec.ofChange fnExactHornModelWrong)

/-- 'laws.FnExactPairModel': WHATEVER THE INPUT: true; the input reads as it did. -/
def fnExactPairModelSpec : ChangeSpec := { name := "fnExactPairModel", fn := fun _ => fun
  | [d] => { results := [.lit (.bool true)], args := [d] }
  | _ => none }
def fnExactPairModelRow : OpenClaim := { program := "ytdeelgnfnhdklaa", sum := "f019dbb7e89ac1c56bd591b0727b0126705da6b9516788256adde54116fcc9d7", func := "loop.example/g01346/laws.FnExactPairModel", spec := "fnExactPairModel", unfollowed := true, recurses := true, apart := false }
def FnExactPairModelSaid : Prop := fnExactPairModelRow.holds Try.pinned (OpenSpec.ofChange fnExactPairModelSpec)

/-- ITS FALSE NEIGHBOUR: 'it returns false'. Refute it at one input. -/
def fnExactPairModelWrong : ChangeSpec := { name := "fnExactPairModel", fn := fun _ => fun
  | [d] => { results := [.lit (.bool false)], args := [d] }
  | _ => none }
def FnExactPairModelWrongFalsely : Prop := fnExactPairModelRow.holds Try.pinned (OpenSpec.ofChange fnExactPairModelWrong)

/-- 'laws.FnExactFormsShared': WHATEVER THE INPUT: true; the input reads as it did. -/
def fnExactFormsSharedSpec : ChangeSpec := { name := "fnExactFormsShared", fn := fun _ => fun
  | [d1, d2] => { results := [.lit (.bool true)], args := [d1, d2] }
  | _ => none }
def fnExactFormsSharedRow : OpenClaim := { program := "ytdeelgnfnhdklaa", sum := "f019dbb7e89ac1c56bd591b0727b0126705da6b9516788256adde54116fcc9d7", func := "loop.example/g01346/laws.FnExactFormsShared", spec := "fnExactFormsShared", unfollowed := true, recurses := true, apart := false }
def FnExactFormsSharedSaid : Prop := fnExactFormsSharedRow.holds Try.pinned (OpenSpec.ofChange fnExactFormsSharedSpec)

/-- ITS FALSE NEIGHBOUR: 'it returns false'. Refute it at one input. -/
def fnExactFormsSharedWrong : ChangeSpec := { name := "fnExactFormsShared", fn := fun _ => fun
  | [d1, d2] => { results := [.lit (.bool false)], args := [d1, d2] }
  | _ => none }
def FnExactFormsSharedWrongFalsely : Prop := fnExactFormsSharedRow.holds Try.pinned (OpenSpec.ofChange fnExactFormsSharedWrong)

/-- 'laws.FnExactResolve': WHATEVER THE INPUT: true; the input reads as it did. -/
def fnExactResolveSpec : ChangeSpec := { name := "fnExactResolve", fn := fun _ => fun
  | [d1, d2, d3, d4] => { results := [.lit (.bool true)], args := [d1, d2, d3, d4] }
  | _ => none }
def fnExactResolveRow : OpenClaim := { program := "ytdeelgnfnhdklaa", sum := "f019dbb7e89ac1c56bd591b0727b0126705da6b9516788256adde54116fcc9d7", func := "loop.example/g01346/laws.FnExactResolve", spec := "fnExactResolve", unfollowed := true, recurses := true, apart := false }
def FnExactResolveSaid : Prop := fnExactResolveRow.holds Try.pinned (OpenSpec.ofChange fnExactResolveSpec)

/-- ITS FALSE NEIGHBOUR: 'it returns false'. Refute it at one input. -/
def fnExactResolveWrong : ChangeSpec := { name := "fnExactResolve", fn := fun _ => fun
  | [d1, d2, d3, d4] => { results := [.lit (.bool false)], args := [d1, d2, d3, d4] }
  | _ => none }
def FnExactResolveWrongFalsely : Prop := fnExactResolveRow.holds Try.pinned (OpenSpec.ofChange fnExactResolveWrong)

/-- 'laws.FnExactLeaveLetter': WHATEVER THE INPUT: true; the input reads as it did. -/
def fnExactLeaveLetterSpec : ChangeSpec := { name := "fnExactLeaveLetter", fn := fun _ => fun
  | [d1, d2] => { results := [.lit (.bool true)], args := [d1, d2] }
  | _ => none }
def fnExactLeaveLetterRow : OpenClaim := { program := "ytdeelgnfnhdklaa", sum := "f019dbb7e89ac1c56bd591b0727b0126705da6b9516788256adde54116fcc9d7", func := "loop.example/g01346/laws.FnExactLeaveLetter", spec := "fnExactLeaveLetter", unfollowed := true, recurses := true, apart := false }
def FnExactLeaveLetterSaid : Prop := fnExactLeaveLetterRow.holds Try.pinned (OpenSpec.ofChange fnExactLeaveLetterSpec)

/-- ITS FALSE NEIGHBOUR: 'it returns false'. Refute it at one input. -/
def fnExactLeaveLetterWrong : ChangeSpec := { name := "fnExactLeaveLetter", fn := fun _ => fun
  | [d1, d2] => { results := [.lit (.bool false)], args := [d1, d2] }
  | _ => none }
def FnExactLeaveLetterWrongFalsely : Prop := fnExactLeaveLetterRow.holds Try.pinned (OpenSpec.ofChange fnExactLeaveLetterWrong)

/-- 'laws.FnExactLearnFrom': WHATEVER THE INPUT: true; the input reads as it did. -/
def fnExactLearnFromSpec : ChangeSpec := { name := "fnExactLearnFrom", fn := fun _ => fun
  | [d1, d2] => { results := [.lit (.bool true)], args := [d1, d2] }
  | _ => none }
def fnExactLearnFromRow : OpenClaim := { program := "ytdeelgnfnhdklaa", sum := "f019dbb7e89ac1c56bd591b0727b0126705da6b9516788256adde54116fcc9d7", func := "loop.example/g01346/laws.FnExactLearnFrom", spec := "fnExactLearnFrom", unfollowed := true, recurses := true, apart := false }
def FnExactLearnFromSaid : Prop := fnExactLearnFromRow.holds Try.pinned (OpenSpec.ofChange fnExactLearnFromSpec)

/-- ITS FALSE NEIGHBOUR: 'it returns false'. Refute it at one input. -/
def fnExactLearnFromWrong : ChangeSpec := { name := "fnExactLearnFrom", fn := fun _ => fun
  | [d1, d2] => { results := [.lit (.bool false)], args := [d1, d2] }
  | _ => none }
def FnExactLearnFromWrongFalsely : Prop := fnExactLearnFromRow.holds Try.pinned (OpenSpec.ofChange fnExactLearnFromWrong)

/-- 'laws.FnExactProveNo': WHATEVER THE INPUT: true; the input reads as it did. -/
def fnExactProveNoSpec : ChangeSpec := { name := "fnExactProveNo", fn := fun _ => fun
  | [d] => { results := [.lit (.bool true)], args := [d] }
  | _ => none }
def fnExactProveNoRow : OpenClaim := { program := "ytdeelgnfnhdklaa", sum := "f019dbb7e89ac1c56bd591b0727b0126705da6b9516788256adde54116fcc9d7", func := "loop.example/g01346/laws.FnExactProveNo", spec := "fnExactProveNo", unfollowed := true, recurses := true, apart := false }
def FnExactProveNoSaid : Prop := fnExactProveNoRow.holds Try.pinned (OpenSpec.ofChange fnExactProveNoSpec)

/-- ITS FALSE NEIGHBOUR: 'it returns false'. Refute it at one input. -/
def fnExactProveNoWrong : ChangeSpec := { name := "fnExactProveNo", fn := fun _ => fun
  | [d] => { results := [.lit (.bool false)], args := [d] }
  | _ => none }
def FnExactProveNoWrongFalsely : Prop := fnExactProveNoRow.holds Try.pinned (OpenSpec.ofChange fnExactProveNoWrong)

/- THE SECOND FORM. 'bulk': how many values and letters a reading holds, each counted each time it is reached (what is shared counts as often as it is met; a slice's spare places count too). A statement '..UptoSaid' is the law's where the arguments, and the package variables that the reading takes, are together of bulk at most 1048576: NARROWER than '..Said'. Prove '..Said' where nothing that the law and all that it calls make is longer than what came in: it says more and counts as full. Else prove '..UptoSaid'. A law counts once. -/
mutual
def uptoBulk {H : Type} : DataW H → Nat
  | .lit (.string bytes) => bytes.length + 1
  | .lit _ => 1
  | .nil => 1
  | .ptr d => uptoBulk d + 1
  | .slice elems spare => uptoBulkAll elems + uptoBulkAll spare + 1
  | .agg parts => uptoBulkAll parts + 1
  | .iface _ d => uptoBulk d + 1
  | .map entries => uptoBulkEntries entries + 1
  | .held _ => 1
def uptoBulkAll {H : Type} : List (DataW H) → Nat
  | [] => 0
  | d :: r => uptoBulk d + uptoBulkAll r
def uptoBulkEntries {H : Type} : List (Lit × DataW H) → Nat
  | [] => 0
  | x :: r => uptoBulkEntry x + uptoBulkEntries r
def uptoBulkEntry {H : Type} : Lit × DataW H → Nat
  | (.string bytes, d) => bytes.length + uptoBulk d + 1
  | (_, d) => uptoBulk d + 1
 end
def uptoSmall : (H : Type) → List (DataW H) → Bool := fun _ ds => decide (uptoBulkAll ds ≤ 1048576)
def OpenSpec.upto (s : _root_.Go.ChangeSpec) : _root_.Go.OpenSpec := { _root_.Go.OpenSpec.ofChange s with cond := some uptoSmall }

/-- 'laws.FnExactAllSome', WHERE WHAT IT READS IS OF BULK AT MOST 1048576: true; the input reads as it did. -/
def fnExactAllSomeUptoRow : OpenClaim := { program := "ytdeelgnfnhdklaa", sum := "f019dbb7e89ac1c56bd591b0727b0126705da6b9516788256adde54116fcc9d7", func := "loop.example/g01346/laws.FnExactAllSome", spec := "fnExactAllSome", recurses := true, apart := false, narrowed := true }
def FnExactAllSomeUptoSaid : Prop := fnExactAllSomeUptoRow.holds Try.pinned (OpenSpec.upto fnExactAllSomeSpec)

/-- 'laws.FnExactFirstMove', WHERE WHAT IT READS IS OF BULK AT MOST 1048576: true; the input reads as it did. -/
def fnExactFirstMoveUptoRow : OpenClaim := { program := "ytdeelgnfnhdklaa", sum := "f019dbb7e89ac1c56bd591b0727b0126705da6b9516788256adde54116fcc9d7", func := "loop.example/g01346/laws.FnExactFirstMove", spec := "fnExactFirstMove", recurses := true, apart := false, narrowed := true }
def FnExactFirstMoveUptoSaid : Prop := fnExactFirstMoveUptoRow.holds Try.pinned (OpenSpec.upto fnExactFirstMoveSpec)

/-- 'laws.FnExactIsProof', WHERE WHAT IT READS IS OF BULK AT MOST 1048576: true; the input reads as it did. -/
def fnExactIsProofUptoRow : OpenClaim := { program := "ytdeelgnfnhdklaa", sum := "f019dbb7e89ac1c56bd591b0727b0126705da6b9516788256adde54116fcc9d7", func := "loop.example/g01346/laws.FnExactIsProof", spec := "fnExactIsProof", apart := false, narrowed := true }
def FnExactIsProofUptoSaid : Prop := fnExactIsProofUptoRow.holds Try.pinned (OpenSpec.upto fnExactIsProofSpec)

/-- 'laws.FnExactUnitsOf', WHERE WHAT IT READS IS OF BULK AT MOST 1048576: true; the input reads as it did. -/
def fnExactUnitsOfUptoRow : OpenClaim := { program := "ytdeelgnfnhdklaa", sum := "f019dbb7e89ac1c56bd591b0727b0126705da6b9516788256adde54116fcc9d7", func := "loop.example/g01346/laws.FnExactUnitsOf", spec := "fnExactUnitsOf", apart := false, narrowed := true }
def FnExactUnitsOfUptoSaid : Prop := fnExactUnitsOfUptoRow.holds Try.pinned (OpenSpec.upto fnExactUnitsOfSpec)

/-- 'laws.FnExactCoreOf', WHERE WHAT IT READS IS OF BULK AT MOST 1048576: true; the input reads as it did. -/
def fnExactCoreOfUptoRow : OpenClaim := { program := "ytdeelgnfnhdklaa", sum := "f019dbb7e89ac1c56bd591b0727b0126705da6b9516788256adde54116fcc9d7", func := "loop.example/g01346/laws.FnExactCoreOf", spec := "fnExactCoreOf", unfollowed := true, recurses := true, apart := false, narrowed := true }
def FnExactCoreOfUptoSaid : Prop := fnExactCoreOfUptoRow.holds Try.pinned (OpenSpec.upto fnExactCoreOfSpec)

/-- 'laws.FnExactHornModel', WHERE WHAT IT READS IS OF BULK AT MOST 1048576: true; the input reads as it did. -/
def fnExactHornModelUptoRow : OpenClaim := { program := "ytdeelgnfnhdklaa", sum := "f019dbb7e89ac1c56bd591b0727b0126705da6b9516788256adde54116fcc9d7", func := "loop.example/g01346/laws.FnExactHornModel", spec := "fnExactHornModel", unfollowed := true, recurses := true, apart := false, narrowed := true }
def FnExactHornModelUptoSaid : Prop := fnExactHornModelUptoRow.holds Try.pinned (OpenSpec.upto fnExactHornModelSpec)

/-- 'laws.FnExactPairModel', WHERE WHAT IT READS IS OF BULK AT MOST 1048576: true; the input reads as it did. -/
def fnExactPairModelUptoRow : OpenClaim := { program := "ytdeelgnfnhdklaa", sum := "f019dbb7e89ac1c56bd591b0727b0126705da6b9516788256adde54116fcc9d7", func := "loop.example/g01346/laws.FnExactPairModel", spec := "fnExactPairModel", unfollowed := true, recurses := true, apart := false, narrowed := true }
def FnExactPairModelUptoSaid : Prop := fnExactPairModelUptoRow.holds Try.pinned (OpenSpec.upto fnExactPairModelSpec)

/-- 'laws.FnExactFormsShared', WHERE WHAT IT READS IS OF BULK AT MOST 1048576: true; the input reads as it did. -/
def fnExactFormsSharedUptoRow : OpenClaim := { program := "ytdeelgnfnhdklaa", sum := "f019dbb7e89ac1c56bd591b0727b0126705da6b9516788256adde54116fcc9d7", func := "loop.example/g01346/laws.FnExactFormsShared", spec := "fnExactFormsShared", unfollowed := true, recurses := true, apart := false, narrowed := true }
def FnExactFormsSharedUptoSaid : Prop := fnExactFormsSharedUptoRow.holds Try.pinned (OpenSpec.upto fnExactFormsSharedSpec)

/-- 'laws.FnExactResolve', WHERE WHAT IT READS IS OF BULK AT MOST 1048576: true; the input reads as it did. -/
def fnExactResolveUptoRow : OpenClaim := { program := "ytdeelgnfnhdklaa", sum := "f019dbb7e89ac1c56bd591b0727b0126705da6b9516788256adde54116fcc9d7", func := "loop.example/g01346/laws.FnExactResolve", spec := "fnExactResolve", unfollowed := true, recurses := true, apart := false, narrowed := true }
def FnExactResolveUptoSaid : Prop := fnExactResolveUptoRow.holds Try.pinned (OpenSpec.upto fnExactResolveSpec)

/-- 'laws.FnExactLeaveLetter', WHERE WHAT IT READS IS OF BULK AT MOST 1048576: true; the input reads as it did. -/
def fnExactLeaveLetterUptoRow : OpenClaim := { program := "ytdeelgnfnhdklaa", sum := "f019dbb7e89ac1c56bd591b0727b0126705da6b9516788256adde54116fcc9d7", func := "loop.example/g01346/laws.FnExactLeaveLetter", spec := "fnExactLeaveLetter", unfollowed := true, recurses := true, apart := false, narrowed := true }
def FnExactLeaveLetterUptoSaid : Prop := fnExactLeaveLetterUptoRow.holds Try.pinned (OpenSpec.upto fnExactLeaveLetterSpec)

/-- 'laws.FnExactLearnFrom', WHERE WHAT IT READS IS OF BULK AT MOST 1048576: true; the input reads as it did. -/
def fnExactLearnFromUptoRow : OpenClaim := { program := "ytdeelgnfnhdklaa", sum := "f019dbb7e89ac1c56bd591b0727b0126705da6b9516788256adde54116fcc9d7", func := "loop.example/g01346/laws.FnExactLearnFrom", spec := "fnExactLearnFrom", unfollowed := true, recurses := true, apart := false, narrowed := true }
def FnExactLearnFromUptoSaid : Prop := fnExactLearnFromUptoRow.holds Try.pinned (OpenSpec.upto fnExactLearnFromSpec)

/-- 'laws.FnExactProveNo', WHERE WHAT IT READS IS OF BULK AT MOST 1048576: true; the input reads as it did. -/
def fnExactProveNoUptoRow : OpenClaim := { program := "ytdeelgnfnhdklaa", sum := "f019dbb7e89ac1c56bd591b0727b0126705da6b9516788256adde54116fcc9d7", func := "loop.example/g01346/laws.FnExactProveNo", spec := "fnExactProveNo", unfollowed := true, recurses := true, apart := false, narrowed := true }
def FnExactProveNoUptoSaid : Prop := fnExactProveNoUptoRow.holds Try.pinned (OpenSpec.upto fnExactProveNoSpec)

end Rows
end Go.Proofs.Ytdeelgnfnhdklaa
