/-
  No cell of these rows narrows 'for every input' (looked for: loops, veiled, ifaces, maps, wideKeys, modest, calm, conditions, laid).
  DERIVED. THE GIVEN ROWS OF THIS SEAT. 12 by the template 'for every input the law returns true; each argument reads behind the call as it read before'; 0 by the template 'total and deterministic' (their statements: YtmmpgnddaajbjaaTotals.lean).
  GIVEN WITH THE SEED: the statements are not yours to turn. If you find one false, say at which input.
  Laid BY PROGRAM, IN A SANDBOX (cutbox-rows.mjs): the forced cells as the released guide's own fill.sh prints them over the translation 7b2cb75ce066d16b… (all of the seat's roots in one cut). By AI agents, Wed Nov 11 2026. No macro, syntax, notation, axiom, sorry.
-/
import Derived.Test.YtmmpgnddaajbjaaChecked
import GoSem.Claim
import GoSem.ClaimJoined
import GoSem.ClaimMapViews
import Derived.JoinedTies
import Derived.KernelRfl
namespace Go.Proofs.Ytmmpgnddaajbjaa
/- THE CELL 'sum', in the pinned program and in every row, IS THE sha256 OF THE DUMP (.gsa) THAT YtmmpgnddaajbjaaProg.lean LOADS. Nothing in Lean hashes anything: it is a label: what it is worth is what the hold of that sum in a sandbox is worth. -/
noncomputable def Try.pinned : Pinned := { name := "ytmmpgnddaajbjaa", sum := "7b2cb75ce066d16b63d434dcfecfb10e757b337cd89e6c9ea28c27e01abdda05", checked := Try.checked }
namespace Rows
def none {H : Type} : Left H := { results := [], args := [] }

/-- 'laws.FnExactSameForm': WHATEVER THE INPUT: true; the input reads as it did. -/
def fnExactSameFormSpec : ChangeSpec := { name := "fnExactSameForm", fn := fun _ => fun
  | [d1, d2] => { results := [.lit (.bool true)], args := [d1, d2] }
  | _ => none }
def fnExactSameFormRow : OpenClaim := { program := "ytmmpgnddaajbjaa", sum := "7b2cb75ce066d16b63d434dcfecfb10e757b337cd89e6c9ea28c27e01abdda05", func := "loop.example/g01346/laws.FnExactSameForm", spec := "fnExactSameForm", unfollowed := true, recurses := true, apart := false }
def FnExactSameFormSaid : Prop := fnExactSameFormRow.holds Try.pinned (OpenSpec.ofChange fnExactSameFormSpec)

/-- ITS FALSE NEIGHBOUR: 'it returns false'. Refute it at one input. -/
def fnExactSameFormWrong : ChangeSpec := { name := "fnExactSameForm", fn := fun _ => fun
  | [d1, d2] => { results := [.lit (.bool false)], args := [d1, d2] }
  | _ => none }
def FnExactSameFormWrongFalsely : Prop := fnExactSameFormRow.holds Try.pinned (OpenSpec.ofChange fnExactSameFormWrong)

/-- 'laws.FnExactValidForm': WHATEVER THE INPUT: true; the input reads as it did. -/
def fnExactValidFormSpec : ChangeSpec := { name := "fnExactValidForm", fn := fun _ => fun
  | [d] => { results := [.lit (.bool true)], args := [d] }
  | _ => none }
def fnExactValidFormRow : OpenClaim := { program := "ytmmpgnddaajbjaa", sum := "7b2cb75ce066d16b63d434dcfecfb10e757b337cd89e6c9ea28c27e01abdda05", func := "loop.example/g01346/laws.FnExactValidForm", spec := "fnExactValidForm", apart := false }
def FnExactValidFormSaid : Prop := fnExactValidFormRow.holds Try.pinned (OpenSpec.ofChange fnExactValidFormSpec)

/-- ITS FALSE NEIGHBOUR: 'it returns false'. Refute it at one input. -/
def fnExactValidFormWrong : ChangeSpec := { name := "fnExactValidForm", fn := fun _ => fun
  | [d] => { results := [.lit (.bool false)], args := [d] }
  | _ => none }
def FnExactValidFormWrongFalsely : Prop := fnExactValidFormRow.holds Try.pinned (OpenSpec.ofChange fnExactValidFormWrong)

/-- 'laws.FnExactAtMostForm': WHATEVER THE INPUT: true; the input reads as it did. -/
def fnExactAtMostFormSpec : ChangeSpec := { name := "fnExactAtMostForm", fn := fun _ => fun
  | [d1, d2] => { results := [.lit (.bool true)], args := [d1, d2] }
  | _ => none }
def fnExactAtMostFormRow : OpenClaim := { program := "ytmmpgnddaajbjaa", sum := "7b2cb75ce066d16b63d434dcfecfb10e757b337cd89e6c9ea28c27e01abdda05", func := "loop.example/g01346/laws.FnExactAtMostForm", spec := "fnExactAtMostForm", recurses := true, apart := false }
def FnExactAtMostFormSaid : Prop := fnExactAtMostFormRow.holds Try.pinned (OpenSpec.ofChange fnExactAtMostFormSpec)

/-- ITS FALSE NEIGHBOUR: 'it returns false'. Refute it at one input. -/
def fnExactAtMostFormWrong : ChangeSpec := { name := "fnExactAtMostForm", fn := fun _ => fun
  | [d1, d2] => { results := [.lit (.bool false)], args := [d1, d2] }
  | _ => none }
def FnExactAtMostFormWrongFalsely : Prop := fnExactAtMostFormRow.holds Try.pinned (OpenSpec.ofChange fnExactAtMostFormWrong)

/-- 'laws.FnExactOddModel': WHATEVER THE INPUT: true; the input reads as it did. -/
def fnExactOddModelSpec : ChangeSpec := { name := "fnExactOddModel", fn := fun _ => fun
  | [d1, d2, d3] => { results := [.lit (.bool true)], args := [d1, d2, d3] }
  | _ => none }
def fnExactOddModelRow : OpenClaim := { program := "ytmmpgnddaajbjaa", sum := "7b2cb75ce066d16b63d434dcfecfb10e757b337cd89e6c9ea28c27e01abdda05", func := "loop.example/g01346/laws.FnExactOddModel", spec := "fnExactOddModel", unfollowed := true, recurses := true, apart := false }
def FnExactOddModelSaid : Prop := fnExactOddModelRow.holds Try.pinned (OpenSpec.ofChange fnExactOddModelSpec)

/-- ITS FALSE NEIGHBOUR: 'it returns false'. Refute it at one input. -/
def fnExactOddModelWrong : ChangeSpec := { name := "fnExactOddModel", fn := fun _ => fun
  | [d1, d2, d3] => { results := [.lit (.bool false)], args := [d1, d2, d3] }
  | _ => none }
def FnExactOddModelWrongFalsely : Prop := fnExactOddModelRow.holds Try.pinned (OpenSpec.ofChange fnExactOddModelWrong)

/-- 'laws.FnExactHoldsBy': WHATEVER THE INPUT: true; the input reads as it did. -/
def fnExactHoldsBySpec : ChangeSpec := { name := "fnExactHoldsBy", fn := fun _ => fun
  | [d1, d2] => { results := [.lit (.bool true)], args := [d1, d2] }
  | _ => none }
def fnExactHoldsByRow : OpenClaim := { program := "ytmmpgnddaajbjaa", sum := "7b2cb75ce066d16b63d434dcfecfb10e757b337cd89e6c9ea28c27e01abdda05", func := "loop.example/g01346/laws.FnExactHoldsBy", spec := "fnExactHoldsBy", apart := false }
def FnExactHoldsBySaid : Prop := fnExactHoldsByRow.holds Try.pinned (OpenSpec.ofChange fnExactHoldsBySpec)

/-- ITS FALSE NEIGHBOUR: 'it returns false'. Refute it at one input. -/
def fnExactHoldsByWrong : ChangeSpec := { name := "fnExactHoldsBy", fn := fun _ => fun
  | [d1, d2] => { results := [.lit (.bool false)], args := [d1, d2] }
  | _ => none }
def FnExactHoldsByWrongFalsely : Prop := fnExactHoldsByRow.holds Try.pinned (OpenSpec.ofChange fnExactHoldsByWrong)

/-- 'laws.FnExactCountModels': WHATEVER THE INPUT: true; the input reads as it did. -/
def fnExactCountModelsSpec : ChangeSpec := { name := "fnExactCountModels", fn := fun _ => fun
  | [d] => { results := [.lit (.bool true)], args := [d] }
  | _ => none }
def fnExactCountModelsRow : OpenClaim := { program := "ytmmpgnddaajbjaa", sum := "7b2cb75ce066d16b63d434dcfecfb10e757b337cd89e6c9ea28c27e01abdda05", func := "loop.example/g01346/laws.FnExactCountModels", spec := "fnExactCountModels", unfollowed := true, recurses := true, apart := false }
def FnExactCountModelsSaid : Prop := fnExactCountModelsRow.holds Try.pinned (OpenSpec.ofChange fnExactCountModelsSpec)

/-- ITS FALSE NEIGHBOUR: 'it returns false'. Refute it at one input. -/
def fnExactCountModelsWrong : ChangeSpec := { name := "fnExactCountModels", fn := fun _ => fun
  | [d] => { results := [.lit (.bool false)], args := [d] }
  | _ => none }
def FnExactCountModelsWrongFalsely : Prop := fnExactCountModelsRow.holds Try.pinned (OpenSpec.ofChange fnExactCountModelsWrong)

/-- 'laws.FnExactPureIn': WHATEVER THE INPUT: true; the input reads as it did. -/
def fnExactPureInSpec : ChangeSpec := { name := "fnExactPureIn", fn := fun _ => fun
  | [d] => { results := [.lit (.bool true)], args := [d] }
  | _ => none }
def fnExactPureInRow : OpenClaim := { program := "ytmmpgnddaajbjaa", sum := "7b2cb75ce066d16b63d434dcfecfb10e757b337cd89e6c9ea28c27e01abdda05", func := "loop.example/g01346/laws.FnExactPureIn", spec := "fnExactPureIn", apart := false }
def FnExactPureInSaid : Prop := fnExactPureInRow.holds Try.pinned (OpenSpec.ofChange fnExactPureInSpec)

/-- ITS FALSE NEIGHBOUR: 'it returns false'. Refute it at one input. -/
def fnExactPureInWrong : ChangeSpec := { name := "fnExactPureIn", fn := fun _ => fun
  | [d] => { results := [.lit (.bool false)], args := [d] }
  | _ => none }
def FnExactPureInWrongFalsely : Prop := fnExactPureInRow.holds Try.pinned (OpenSpec.ofChange fnExactPureInWrong)

/-- 'laws.FnExactGiveForm': WHATEVER THE INPUT: true; the input reads as it did. -/
def fnExactGiveFormSpec : ChangeSpec := { name := "fnExactGiveForm", fn := fun _ => fun
  | [d1, d2] => { results := [.lit (.bool true)], args := [d1, d2] }
  | _ => none }
def fnExactGiveFormRow : OpenClaim := { program := "ytmmpgnddaajbjaa", sum := "7b2cb75ce066d16b63d434dcfecfb10e757b337cd89e6c9ea28c27e01abdda05", func := "loop.example/g01346/laws.FnExactGiveForm", spec := "fnExactGiveForm", apart := false }
def FnExactGiveFormSaid : Prop := fnExactGiveFormRow.holds Try.pinned (OpenSpec.ofChange fnExactGiveFormSpec)

/-- ITS FALSE NEIGHBOUR: 'it returns false'. Refute it at one input. -/
def fnExactGiveFormWrong : ChangeSpec := { name := "fnExactGiveForm", fn := fun _ => fun
  | [d1, d2] => { results := [.lit (.bool false)], args := [d1, d2] }
  | _ => none }
def FnExactGiveFormWrongFalsely : Prop := fnExactGiveFormRow.holds Try.pinned (OpenSpec.ofChange fnExactGiveFormWrong)

/-- 'laws.FnExactCountOn': WHATEVER THE INPUT: true; the input reads as it did. -/
def fnExactCountOnSpec : ChangeSpec := { name := "fnExactCountOn", fn := fun _ => fun
  | [d1, d2] => { results := [.lit (.bool true)], args := [d1, d2] }
  | _ => none }
def fnExactCountOnRow : OpenClaim := { program := "ytmmpgnddaajbjaa", sum := "7b2cb75ce066d16b63d434dcfecfb10e757b337cd89e6c9ea28c27e01abdda05", func := "loop.example/g01346/laws.FnExactCountOn", spec := "fnExactCountOn", unfollowed := true, recurses := true, apart := false }
def FnExactCountOnSaid : Prop := fnExactCountOnRow.holds Try.pinned (OpenSpec.ofChange fnExactCountOnSpec)

/-- ITS FALSE NEIGHBOUR: 'it returns false'. Refute it at one input. -/
def fnExactCountOnWrong : ChangeSpec := { name := "fnExactCountOn", fn := fun _ => fun
  | [d1, d2] => { results := [.lit (.bool false)], args := [d1, d2] }
  | _ => none }
def FnExactCountOnWrongFalsely : Prop := fnExactCountOnRow.holds Try.pinned (OpenSpec.ofChange fnExactCountOnWrong)

/-- 'laws.FnExactThinForm': WHATEVER THE INPUT: true; the input reads as it did. -/
def fnExactThinFormSpec : ChangeSpec := { name := "fnExactThinForm", fn := fun _ => fun
  | [d] => { results := [.lit (.bool true)], args := [d] }
  | _ => none }
def fnExactThinFormRow : OpenClaim := { program := "ytmmpgnddaajbjaa", sum := "7b2cb75ce066d16b63d434dcfecfb10e757b337cd89e6c9ea28c27e01abdda05", func := "loop.example/g01346/laws.FnExactThinForm", spec := "fnExactThinForm", apart := false }
def FnExactThinFormSaid : Prop := fnExactThinFormRow.holds Try.pinned (OpenSpec.ofChange fnExactThinFormSpec)

/-- ITS FALSE NEIGHBOUR: 'it returns false'. Refute it at one input. -/
def fnExactThinFormWrong : ChangeSpec := { name := "fnExactThinForm", fn := fun _ => fun
  | [d] => { results := [.lit (.bool false)], args := [d] }
  | _ => none }
def FnExactThinFormWrongFalsely : Prop := fnExactThinFormRow.holds Try.pinned (OpenSpec.ofChange fnExactThinFormWrong)

/-- 'laws.FnExactMostTrue': WHATEVER THE INPUT: true; the input reads as it did. -/
def fnExactMostTrueSpec : ChangeSpec := { name := "fnExactMostTrue", fn := fun _ => fun
  | [d] => { results := [.lit (.bool true)], args := [d] }
  | _ => none }
def fnExactMostTrueRow : OpenClaim := { program := "ytmmpgnddaajbjaa", sum := "7b2cb75ce066d16b63d434dcfecfb10e757b337cd89e6c9ea28c27e01abdda05", func := "loop.example/g01346/laws.FnExactMostTrue", spec := "fnExactMostTrue", unfollowed := true, recurses := true, apart := false }
def FnExactMostTrueSaid : Prop := fnExactMostTrueRow.holds Try.pinned (OpenSpec.ofChange fnExactMostTrueSpec)

/-- ITS FALSE NEIGHBOUR: 'it returns false'. Refute it at one input. -/
def fnExactMostTrueWrong : ChangeSpec := { name := "fnExactMostTrue", fn := fun _ => fun
  | [d] => { results := [.lit (.bool false)], args := [d] }
  | _ => none }
def FnExactMostTrueWrongFalsely : Prop := fnExactMostTrueRow.holds Try.pinned (OpenSpec.ofChange fnExactMostTrueWrong)

/-- 'laws.FnExactFirstModel': WHATEVER THE INPUT: true; the input reads as it did. -/
def fnExactFirstModelSpec : ChangeSpec := { name := "fnExactFirstModel", fn := fun _ => fun
  | [d] => { results := [.lit (.bool true)], args := [d] }
  | _ => none }
def fnExactFirstModelRow : OpenClaim := { program := "ytmmpgnddaajbjaa", sum := "7b2cb75ce066d16b63d434dcfecfb10e757b337cd89e6c9ea28c27e01abdda05", func := "loop.example/g01346/laws.FnExactFirstModel", spec := "fnExactFirstModel", unfollowed := true, recurses := true, apart := false }
def FnExactFirstModelSaid : Prop := fnExactFirstModelRow.holds Try.pinned (OpenSpec.ofChange fnExactFirstModelSpec)

/-- ITS FALSE NEIGHBOUR: 'it returns false'. Refute it at one input. -/
def fnExactFirstModelWrong : ChangeSpec := { name := "fnExactFirstModel", fn := fun _ => fun
  | [d] => { results := [.lit (.bool false)], args := [d] }
  | _ => none }
def FnExactFirstModelWrongFalsely : Prop := fnExactFirstModelRow.holds Try.pinned (OpenSpec.ofChange fnExactFirstModelWrong)

/- THE SECOND FORM. 'bulk': how many values and letters a reading holds, each counted each time it is reached (what is shared counts as often as it is met; a slice's spare places count too). A statement '..UptoSaid' is the law's where the arguments, and the package variables that the reading takes, are together of bulk at most 1048576: NARROWER than '..Said'. Prove '..Said' where nothing that the law and all that it calls make is longer than what came in: it says more and counts as full. Else prove '..UptoSaid'. A law counts once. -/
mutual
def uptoBulk {H : Type} : DataW H → Nat
  | .lit (.string bytes) => bytes.length + 1
  | .lit _ => 1
  | .nil => 1
  | .ptr d => uptoBulk d + 1
  | .slice elems spare => uptoBulkAll elems + uptoBulkAll spare + 1
  | .agg parts => uptoBulkAll parts + 1
  | .iface _ d => uptoBulk d + 1
  | .map entries => uptoBulkEntries entries + 1
  | .held _ => 1
def uptoBulkAll {H : Type} : List (DataW H) → Nat
  | [] => 0
  | d :: r => uptoBulk d + uptoBulkAll r
def uptoBulkEntries {H : Type} : List (Lit × DataW H) → Nat
  | [] => 0
  | x :: r => uptoBulkEntry x + uptoBulkEntries r
def uptoBulkEntry {H : Type} : Lit × DataW H → Nat
  | (.string bytes, d) => bytes.length + uptoBulk d + 1
  | (_, d) => uptoBulk d + 1
 end
def uptoSmall : (H : Type) → List (DataW H) → Bool := fun _ ds => decide (uptoBulkAll ds ≤ 1048576)
def OpenSpec.upto (s : _root_.Go.ChangeSpec) : _root_.Go.OpenSpec := { _root_.Go.OpenSpec.ofChange s with cond := some uptoSmall }

/-- 'laws.FnExactSameForm', WHERE WHAT IT READS IS OF BULK AT MOST 1048576: true; the input reads as it did. -/
def fnExactSameFormUptoRow : OpenClaim := { program := "ytmmpgnddaajbjaa", sum := "7b2cb75ce066d16b63d434dcfecfb10e757b337cd89e6c9ea28c27e01abdda05", func := "loop.example/g01346/laws.FnExactSameForm", spec := "fnExactSameForm", unfollowed := true, recurses := true, apart := false, narrowed := true }
def FnExactSameFormUptoSaid : Prop := fnExactSameFormUptoRow.holds Try.pinned (OpenSpec.upto fnExactSameFormSpec)

/-- 'laws.FnExactValidForm', WHERE WHAT IT READS IS OF BULK AT MOST 1048576: true; the input reads as it did. -/
def fnExactValidFormUptoRow : OpenClaim := { program := "ytmmpgnddaajbjaa", sum := "7b2cb75ce066d16b63d434dcfecfb10e757b337cd89e6c9ea28c27e01abdda05", func := "loop.example/g01346/laws.FnExactValidForm", spec := "fnExactValidForm", apart := false, narrowed := true }
def FnExactValidFormUptoSaid : Prop := fnExactValidFormUptoRow.holds Try.pinned (OpenSpec.upto fnExactValidFormSpec)

/-- 'laws.FnExactAtMostForm', WHERE WHAT IT READS IS OF BULK AT MOST 1048576: true; the input reads as it did. -/
def fnExactAtMostFormUptoRow : OpenClaim := { program := "ytmmpgnddaajbjaa", sum := "7b2cb75ce066d16b63d434dcfecfb10e757b337cd89e6c9ea28c27e01abdda05", func := "loop.example/g01346/laws.FnExactAtMostForm", spec := "fnExactAtMostForm", recurses := true, apart := false, narrowed := true }
def FnExactAtMostFormUptoSaid : Prop := fnExactAtMostFormUptoRow.holds Try.pinned (OpenSpec.upto fnExactAtMostFormSpec)

/-- 'laws.FnExactOddModel', WHERE WHAT IT READS IS OF BULK AT MOST 1048576: true; the input reads as it did. -/
def fnExactOddModelUptoRow : OpenClaim := { program := "ytmmpgnddaajbjaa", sum := "7b2cb75ce066d16b63d434dcfecfb10e757b337cd89e6c9ea28c27e01abdda05", func := "loop.example/g01346/laws.FnExactOddModel", spec := "fnExactOddModel", unfollowed := true, recurses := true, apart := false, narrowed := true }
def FnExactOddModelUptoSaid : Prop := fnExactOddModelUptoRow.holds Try.pinned (OpenSpec.upto fnExactOddModelSpec)

/-- 'laws.FnExactHoldsBy', WHERE WHAT IT READS IS OF BULK AT MOST 1048576: true; the input reads as it did. -/
def fnExactHoldsByUptoRow : OpenClaim := { program := "ytmmpgnddaajbjaa", sum := "7b2cb75ce066d16b63d434dcfecfb10e757b337cd89e6c9ea28c27e01abdda05", func := "loop.example/g01346/laws.FnExactHoldsBy", spec := "fnExactHoldsBy", apart := false, narrowed := true }
def FnExactHoldsByUptoSaid : Prop := fnExactHoldsByUptoRow.holds Try.pinned (OpenSpec.upto fnExactHoldsBySpec)

/-- 'laws.FnExactCountModels', WHERE WHAT IT READS IS OF BULK AT MOST 1048576: true; the input reads as it did. -/
def fnExactCountModelsUptoRow : OpenClaim := { program := "ytmmpgnddaajbjaa", sum := "7b2cb75ce066d16b63d434dcfecfb10e757b337cd89e6c9ea28c27e01abdda05", func := "loop.example/g01346/laws.FnExactCountModels", spec := "fnExactCountModels", unfollowed := true, recurses := true, apart := false, narrowed := true }
def FnExactCountModelsUptoSaid : Prop := fnExactCountModelsUptoRow.holds Try.pinned (OpenSpec.upto fnExactCountModelsSpec)

/-- 'laws.FnExactPureIn', WHERE WHAT IT READS IS OF BULK AT MOST 1048576: true; the input reads as it did. -/
def fnExactPureInUptoRow : OpenClaim := { program := "ytmmpgnddaajbjaa", sum := "7b2cb75ce066d16b63d434dcfecfb10e757b337cd89e6c9ea28c27e01abdda05", func := "loop.example/g01346/laws.FnExactPureIn", spec := "fnExactPureIn", apart := false, narrowed := true }
def FnExactPureInUptoSaid : Prop := fnExactPureInUptoRow.holds Try.pinned (OpenSpec.upto fnExactPureInSpec)

/-- 'laws.FnExactGiveForm', WHERE WHAT IT READS IS OF BULK AT MOST 1048576: true; the input reads as it did. -/
def fnExactGiveFormUptoRow : OpenClaim := { program := "ytmmpgnddaajbjaa", sum := "7b2cb75ce066d16b63d434dcfecfb10e757b337cd89e6c9ea28c27e01abdda05", func := "loop.example/g01346/laws.FnExactGiveForm", spec := "fnExactGiveForm", apart := false, narrowed := true }
def FnExactGiveFormUptoSaid : Prop := fnExactGiveFormUptoRow.holds Try.pinned (OpenSpec.upto fnExactGiveFormSpec)

/-- 'laws.FnExactCountOn', WHERE WHAT IT READS IS OF BULK AT MOST 1048576: true; the input reads as it did. -/
def fnExactCountOnUptoRow : OpenClaim := { program := "ytmmpgnddaajbjaa", sum := "7b2cb75ce066d16b63d434dcfecfb10e757b337cd89e6c9ea28c27e01abdda05", func := "loop.example/g01346/laws.FnExactCountOn", spec := "fnExactCountOn", unfollowed := true, recurses := true, apart := false, narrowed := true }
def FnExactCountOnUptoSaid : Prop := fnExactCountOnUptoRow.holds Try.pinned (OpenSpec.upto fnExactCountOnSpec)

/-- 'laws.FnExactThinForm', WHERE WHAT IT READS IS OF BULK AT MOST 1048576: true; the input reads as it did. -/
def fnExactThinFormUptoRow : OpenClaim := { program := "ytmmpgnddaajbjaa", sum := "7b2cb75ce066d16b63d434dcfecfb10e757b337cd89e6c9ea28c27e01abdda05", func := "loop.example/g01346/laws.FnExactThinForm", spec := "fnExactThinForm", apart := false, narrowed := true }
def FnExactThinFormUptoSaid : Prop := fnExactThinFormUptoRow.holds Try.pinned (OpenSpec.upto fnExactThinFormSpec)

/-- 'laws.FnExactMostTrue', WHERE WHAT IT READS IS OF BULK AT MOST 1048576: true; the input reads as it did. -/
def fnExactMostTrueUptoRow : OpenClaim := { program := "ytmmpgnddaajbjaa", sum := "7b2cb75ce066d16b63d434dcfecfb10e757b337cd89e6c9ea28c27e01abdda05", func := "loop.example/g01346/laws.FnExactMostTrue", spec := "fnExactMostTrue", unfollowed := true, recurses := true, apart := false, narrowed := true }
def FnExactMostTrueUptoSaid : Prop := fnExactMostTrueUptoRow.holds Try.pinned (OpenSpec.upto fnExactMostTrueSpec)

/-- 'laws.FnExactFirstModel', WHERE WHAT IT READS IS OF BULK AT MOST 1048576: true; the input reads as it did. -/
def fnExactFirstModelUptoRow : OpenClaim := { program := "ytmmpgnddaajbjaa", sum := "7b2cb75ce066d16b63d434dcfecfb10e757b337cd89e6c9ea28c27e01abdda05", func := "loop.example/g01346/laws.FnExactFirstModel", spec := "fnExactFirstModel", unfollowed := true, recurses := true, apart := false, narrowed := true }
def FnExactFirstModelUptoSaid : Prop := fnExactFirstModelUptoRow.holds Try.pinned (OpenSpec.upto fnExactFirstModelSpec)

end Rows
end Go.Proofs.Ytmmpgnddaajbjaa
