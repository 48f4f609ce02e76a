/-
  No cell of these rows narrows 'for every input' (looked for: loops, veiled, ifaces, maps, wideKeys, modest, calm, conditions, laid).
  DERIVED. THE GIVEN ROWS OF THIS SEAT. 12 by the template 'for every input the law returns true; each argument reads behind the call as it read before'; 0 by the template 'total and deterministic' (their statements: YtgbomnhidfejbaaTotals.lean).
  GIVEN WITH THE SEED: the statements are not yours to turn. If you find one false, say at which input.
  Laid BY PROGRAM, IN A SANDBOX (cutbox-rows.mjs): the forced cells as the released guide's own fill.sh prints them over the translation f41ddaae44384991… (all of the seat's roots in one cut). By AI agents, Wed Nov 11 2026. No macro, syntax, notation, axiom, sorry.
-/
import Derived.Test.YtgbomnhidfejbaaChecked
import GoSem.Claim
import GoSem.ClaimJoined
import GoSem.ClaimMapViews
import Derived.JoinedTies
import Derived.KernelRfl
namespace Go.Proofs.Ytgbomnhidfejbaa
/- THE CELL 'sum', in the pinned program and in every row, IS THE sha256 OF THE DUMP (.gsa) THAT YtgbomnhidfejbaaProg.lean LOADS. Nothing in Lean hashes anything: it is a label: what it is worth is what the hold of that sum in a sandbox is worth. -/
noncomputable def Try.pinned : Pinned := { name := "ytgbomnhidfejbaa", sum := "f41ddaae443849918d7ea8e02ea7bc5ec71917c8453ec0c4143ac47a47eecbaa", checked := Try.checked }
namespace Rows
def none {H : Type} : Left H := { results := [], args := [] }

/-- 'laws.FnExactHeadsBound': WHATEVER THE INPUT: true; the input reads as it did. -/
def fnExactHeadsBoundSpec : ChangeSpec := { name := "fnExactHeadsBound", fn := fun _ => fun
  | [d] => { results := [.lit (.bool true)], args := [d] }
  | _ => none }
def fnExactHeadsBoundRow : OpenClaim := { program := "ytgbomnhidfejbaa", sum := "f41ddaae443849918d7ea8e02ea7bc5ec71917c8453ec0c4143ac47a47eecbaa", func := "loop.example/g01346/laws.FnExactHeadsBound", spec := "fnExactHeadsBound", apart := false }
def FnExactHeadsBoundSaid : Prop := fnExactHeadsBoundRow.holds Try.pinned (OpenSpec.ofChange fnExactHeadsBoundSpec)

/-- ITS FALSE NEIGHBOUR: 'it returns false'. Refute it at one input. -/
def fnExactHeadsBoundWrong : ChangeSpec := { name := "fnExactHeadsBound", fn := fun _ => fun
  | [d] => { results := [.lit (.bool false)], args := [d] }
  | _ => none }
def FnExactHeadsBoundWrongFalsely : Prop := fnExactHeadsBoundRow.holds Try.pinned (OpenSpec.ofChange fnExactHeadsBoundWrong)

/-- 'laws.FnExactFaultsOf': WHATEVER THE INPUT: true; the input reads as it did. -/
def fnExactFaultsOfSpec : ChangeSpec := { name := "fnExactFaultsOf", fn := fun _ => fun
  | [d1, d2, d3] => { results := [.lit (.bool true)], args := [d1, d2, d3] }
  | _ => none }
def fnExactFaultsOfRow : OpenClaim := { program := "ytgbomnhidfejbaa", sum := "f41ddaae443849918d7ea8e02ea7bc5ec71917c8453ec0c4143ac47a47eecbaa", func := "loop.example/g01346/laws.FnExactFaultsOf", spec := "fnExactFaultsOf", apart := false }
def FnExactFaultsOfSaid : Prop := fnExactFaultsOfRow.holds Try.pinned (OpenSpec.ofChange fnExactFaultsOfSpec)

/-- ITS FALSE NEIGHBOUR: 'it returns false'. Refute it at one input. -/
def fnExactFaultsOfWrong : ChangeSpec := { name := "fnExactFaultsOf", fn := fun _ => fun
  | [d1, d2, d3] => { results := [.lit (.bool false)], args := [d1, d2, d3] }
  | _ => none }
def FnExactFaultsOfWrongFalsely : Prop := fnExactFaultsOfRow.holds Try.pinned (OpenSpec.ofChange fnExactFaultsOfWrong)

/-- 'laws.FnExactWeightedEnds': WHATEVER THE INPUT: true; the input reads as it did. -/
def fnExactWeightedEndsSpec : ChangeSpec := { name := "fnExactWeightedEnds", fn := fun _ => fun
  | [d1, d2] => { results := [.lit (.bool true)], args := [d1, d2] }
  | _ => none }
def fnExactWeightedEndsRow : OpenClaim := { program := "ytgbomnhidfejbaa", sum := "f41ddaae443849918d7ea8e02ea7bc5ec71917c8453ec0c4143ac47a47eecbaa", func := "loop.example/g01346/laws.FnExactWeightedEnds", spec := "fnExactWeightedEnds", apart := false }
def FnExactWeightedEndsSaid : Prop := fnExactWeightedEndsRow.holds Try.pinned (OpenSpec.ofChange fnExactWeightedEndsSpec)

/-- ITS FALSE NEIGHBOUR: 'it returns false'. Refute it at one input. -/
def fnExactWeightedEndsWrong : ChangeSpec := { name := "fnExactWeightedEnds", fn := fun _ => fun
  | [d1, d2] => { results := [.lit (.bool false)], args := [d1, d2] }
  | _ => none }
def FnExactWeightedEndsWrongFalsely : Prop := fnExactWeightedEndsRow.holds Try.pinned (OpenSpec.ofChange fnExactWeightedEndsWrong)

/-- 'laws.FnExactCountLate': WHATEVER THE INPUT: true; the input reads as it did. -/
def fnExactCountLateSpec : ChangeSpec := { name := "fnExactCountLate", fn := fun _ => fun
  | [d1, d2] => { results := [.lit (.bool true)], args := [d1, d2] }
  | _ => none }
def fnExactCountLateRow : OpenClaim := { program := "ytgbomnhidfejbaa", sum := "f41ddaae443849918d7ea8e02ea7bc5ec71917c8453ec0c4143ac47a47eecbaa", func := "loop.example/g01346/laws.FnExactCountLate", spec := "fnExactCountLate", apart := false }
def FnExactCountLateSaid : Prop := fnExactCountLateRow.holds Try.pinned (OpenSpec.ofChange fnExactCountLateSpec)

/-- ITS FALSE NEIGHBOUR: 'it returns false'. Refute it at one input. -/
def fnExactCountLateWrong : ChangeSpec := { name := "fnExactCountLate", fn := fun _ => fun
  | [d1, d2] => { results := [.lit (.bool false)], args := [d1, d2] }
  | _ => none }
def FnExactCountLateWrongFalsely : Prop := fnExactCountLateRow.holds Try.pinned (OpenSpec.ofChange fnExactCountLateWrong)

/-- 'laws.FnExactMostLate': WHATEVER THE INPUT: true; the input reads as it did. -/
def fnExactMostLateSpec : ChangeSpec := { name := "fnExactMostLate", fn := fun _ => fun
  | [d1, d2] => { results := [.lit (.bool true)], args := [d1, d2] }
  | _ => none }
def fnExactMostLateRow : OpenClaim := { program := "ytgbomnhidfejbaa", sum := "f41ddaae443849918d7ea8e02ea7bc5ec71917c8453ec0c4143ac47a47eecbaa", func := "loop.example/g01346/laws.FnExactMostLate", spec := "fnExactMostLate", apart := false }
def FnExactMostLateSaid : Prop := fnExactMostLateRow.holds Try.pinned (OpenSpec.ofChange fnExactMostLateSpec)

/-- ITS FALSE NEIGHBOUR: 'it returns false'. Refute it at one input. -/
def fnExactMostLateWrong : ChangeSpec := { name := "fnExactMostLate", fn := fun _ => fun
  | [d1, d2] => { results := [.lit (.bool false)], args := [d1, d2] }
  | _ => none }
def FnExactMostLateWrongFalsely : Prop := fnExactMostLateRow.holds Try.pinned (OpenSpec.ofChange fnExactMostLateWrong)

/-- 'laws.FnExactLeastSpan': WHATEVER THE INPUT: true; the input reads as it did. -/
def fnExactLeastSpanSpec : ChangeSpec := { name := "fnExactLeastSpan", fn := fun _ => fun
  | [d1, d2] => { results := [.lit (.bool true)], args := [d1, d2] }
  | _ => none }
def fnExactLeastSpanRow : OpenClaim := { program := "ytgbomnhidfejbaa", sum := "f41ddaae443849918d7ea8e02ea7bc5ec71917c8453ec0c4143ac47a47eecbaa", func := "loop.example/g01346/laws.FnExactLeastSpan", spec := "fnExactLeastSpan", recurses := true, apart := false }
def FnExactLeastSpanSaid : Prop := fnExactLeastSpanRow.holds Try.pinned (OpenSpec.ofChange fnExactLeastSpanSpec)

/-- ITS FALSE NEIGHBOUR: 'it returns false'. Refute it at one input. -/
def fnExactLeastSpanWrong : ChangeSpec := { name := "fnExactLeastSpan", fn := fun _ => fun
  | [d1, d2] => { results := [.lit (.bool false)], args := [d1, d2] }
  | _ => none }
def FnExactLeastSpanWrongFalsely : Prop := fnExactLeastSpanRow.holds Try.pinned (OpenSpec.ofChange fnExactLeastSpanWrong)

/-- 'laws.FnExactEndsOf': WHATEVER THE INPUT: true; the input reads as it did. -/
def fnExactEndsOfSpec : ChangeSpec := { name := "fnExactEndsOf", fn := fun _ => fun
  | [d1, d2] => { results := [.lit (.bool true)], args := [d1, d2] }
  | _ => none }
def fnExactEndsOfRow : OpenClaim := { program := "ytgbomnhidfejbaa", sum := "f41ddaae443849918d7ea8e02ea7bc5ec71917c8453ec0c4143ac47a47eecbaa", func := "loop.example/g01346/laws.FnExactEndsOf", spec := "fnExactEndsOf", apart := false }
def FnExactEndsOfSaid : Prop := fnExactEndsOfRow.holds Try.pinned (OpenSpec.ofChange fnExactEndsOfSpec)

/-- ITS FALSE NEIGHBOUR: 'it returns false'. Refute it at one input. -/
def fnExactEndsOfWrong : ChangeSpec := { name := "fnExactEndsOf", fn := fun _ => fun
  | [d1, d2] => { results := [.lit (.bool false)], args := [d1, d2] }
  | _ => none }
def FnExactEndsOfWrongFalsely : Prop := fnExactEndsOfRow.holds Try.pinned (OpenSpec.ofChange fnExactEndsOfWrong)

/-- 'laws.FnExactLeastLate': WHATEVER THE INPUT: true; the input reads as it did. -/
def fnExactLeastLateSpec : ChangeSpec := { name := "fnExactLeastLate", fn := fun _ => fun
  | [d] => { results := [.lit (.bool true)], args := [d] }
  | _ => none }
def fnExactLeastLateRow : OpenClaim := { program := "ytgbomnhidfejbaa", sum := "f41ddaae443849918d7ea8e02ea7bc5ec71917c8453ec0c4143ac47a47eecbaa", func := "loop.example/g01346/laws.FnExactLeastLate", spec := "fnExactLeastLate", apart := false }
def FnExactLeastLateSaid : Prop := fnExactLeastLateRow.holds Try.pinned (OpenSpec.ofChange fnExactLeastLateSpec)

/-- ITS FALSE NEIGHBOUR: 'it returns false'. Refute it at one input. -/
def fnExactLeastLateWrong : ChangeSpec := { name := "fnExactLeastLate", fn := fun _ => fun
  | [d] => { results := [.lit (.bool false)], args := [d] }
  | _ => none }
def FnExactLeastLateWrongFalsely : Prop := fnExactLeastLateRow.holds Try.pinned (OpenSpec.ofChange fnExactLeastLateWrong)

/-- 'laws.FnExactFrontCost': WHATEVER THE INPUT: true; the input reads as it did. -/
def fnExactFrontCostSpec : ChangeSpec := { name := "fnExactFrontCost", fn := fun _ => fun
  | [d1, d2] => { results := [.lit (.bool true)], args := [d1, d2] }
  | _ => none }
def fnExactFrontCostRow : OpenClaim := { program := "ytgbomnhidfejbaa", sum := "f41ddaae443849918d7ea8e02ea7bc5ec71917c8453ec0c4143ac47a47eecbaa", func := "loop.example/g01346/laws.FnExactFrontCost", spec := "fnExactFrontCost", inPlace := ["slices.overlaps[int64]"], apart := false }
def FnExactFrontCostSaid : Prop := fnExactFrontCostRow.holds Try.pinned (OpenSpec.ofChange fnExactFrontCostSpec)

/-- ITS FALSE NEIGHBOUR: 'it returns false'. Refute it at one input. -/
def fnExactFrontCostWrong : ChangeSpec := { name := "fnExactFrontCost", fn := fun _ => fun
  | [d1, d2] => { results := [.lit (.bool false)], args := [d1, d2] }
  | _ => none }
def FnExactFrontCostWrongFalsely : Prop := fnExactFrontCostRow.holds Try.pinned (OpenSpec.ofChange fnExactFrontCostWrong)

/-- 'laws.FnExactTwoStages': WHATEVER THE INPUT: true; the input reads as it did. -/
def fnExactTwoStagesSpec : ChangeSpec := { name := "fnExactTwoStages", fn := fun _ => fun
  | [d1, d2] => { results := [.lit (.bool true)], args := [d1, d2] }
  | _ => none }
def fnExactTwoStagesRow : OpenClaim := { program := "ytgbomnhidfejbaa", sum := "f41ddaae443849918d7ea8e02ea7bc5ec71917c8453ec0c4143ac47a47eecbaa", func := "loop.example/g01346/laws.FnExactTwoStages", spec := "fnExactTwoStages", unfollowed := true, recurses := true, apart := false }
def FnExactTwoStagesSaid : Prop := fnExactTwoStagesRow.holds Try.pinned (OpenSpec.ofChange fnExactTwoStagesSpec)

/-- ITS FALSE NEIGHBOUR: 'it returns false'. Refute it at one input. -/
def fnExactTwoStagesWrong : ChangeSpec := { name := "fnExactTwoStages", fn := fun _ => fun
  | [d1, d2] => { results := [.lit (.bool false)], args := [d1, d2] }
  | _ => none }
def FnExactTwoStagesWrongFalsely : Prop := fnExactTwoStagesRow.holds Try.pinned (OpenSpec.ofChange fnExactTwoStagesWrong)

/-- 'laws.FnExactDueOrder': WHATEVER THE INPUT: true; the input reads as it did. -/
def fnExactDueOrderSpec : ChangeSpec := { name := "fnExactDueOrder", fn := fun _ => fun
  | [d] => { results := [.lit (.bool true)], args := [d] }
  | _ => none }
def fnExactDueOrderRow : OpenClaim := { program := "ytgbomnhidfejbaa", sum := "f41ddaae443849918d7ea8e02ea7bc5ec71917c8453ec0c4143ac47a47eecbaa", func := "loop.example/g01346/laws.FnExactDueOrder", spec := "fnExactDueOrder", unfollowed := true, recurses := true, apart := false }
def FnExactDueOrderSaid : Prop := fnExactDueOrderRow.holds Try.pinned (OpenSpec.ofChange fnExactDueOrderSpec)

/-- ITS FALSE NEIGHBOUR: 'it returns false'. Refute it at one input. -/
def fnExactDueOrderWrong : ChangeSpec := { name := "fnExactDueOrder", fn := fun _ => fun
  | [d] => { results := [.lit (.bool false)], args := [d] }
  | _ => none }
def FnExactDueOrderWrongFalsely : Prop := fnExactDueOrderRow.holds Try.pinned (OpenSpec.ofChange fnExactDueOrderWrong)

/-- 'laws.FnExactSmithOrder': WHATEVER THE INPUT: true; the input reads as it did. -/
def fnExactSmithOrderSpec : ChangeSpec := { name := "fnExactSmithOrder", fn := fun _ => fun
  | [d] => { results := [.lit (.bool true)], args := [d] }
  | _ => none }
def fnExactSmithOrderRow : OpenClaim := { program := "ytgbomnhidfejbaa", sum := "f41ddaae443849918d7ea8e02ea7bc5ec71917c8453ec0c4143ac47a47eecbaa", func := "loop.example/g01346/laws.FnExactSmithOrder", spec := "fnExactSmithOrder", unfollowed := true, recurses := true, apart := false }
def FnExactSmithOrderSaid : Prop := fnExactSmithOrderRow.holds Try.pinned (OpenSpec.ofChange fnExactSmithOrderSpec)

/-- ITS FALSE NEIGHBOUR: 'it returns false'. Refute it at one input. -/
def fnExactSmithOrderWrong : ChangeSpec := { name := "fnExactSmithOrder", fn := fun _ => fun
  | [d] => { results := [.lit (.bool false)], args := [d] }
  | _ => none }
def FnExactSmithOrderWrongFalsely : Prop := fnExactSmithOrderRow.holds Try.pinned (OpenSpec.ofChange fnExactSmithOrderWrong)

/- THE SECOND FORM. 'bulk': how many values and letters a reading holds, each counted each time it is reached (what is shared counts as often as it is met; a slice's spare places count too). A statement '..UptoSaid' is the law's where the arguments, and the package variables that the reading takes, are together of bulk at most 1048576: NARROWER than '..Said'. Prove '..Said' where nothing that the law and all that it calls make is longer than what came in: it says more and counts as full. Else prove '..UptoSaid'. A law counts once. -/
mutual
def uptoBulk {H : Type} : DataW H → Nat
  | .lit (.string bytes) => bytes.length + 1
  | .lit _ => 1
  | .nil => 1
  | .ptr d => uptoBulk d + 1
  | .slice elems spare => uptoBulkAll elems + uptoBulkAll spare + 1
  | .agg parts => uptoBulkAll parts + 1
  | .iface _ d => uptoBulk d + 1
  | .map entries => uptoBulkEntries entries + 1
  | .held _ => 1
def uptoBulkAll {H : Type} : List (DataW H) → Nat
  | [] => 0
  | d :: r => uptoBulk d + uptoBulkAll r
def uptoBulkEntries {H : Type} : List (Lit × DataW H) → Nat
  | [] => 0
  | x :: r => uptoBulkEntry x + uptoBulkEntries r
def uptoBulkEntry {H : Type} : Lit × DataW H → Nat
  | (.string bytes, d) => bytes.length + uptoBulk d + 1
  | (_, d) => uptoBulk d + 1
 end
def uptoSmall : (H : Type) → List (DataW H) → Bool := fun _ ds => decide (uptoBulkAll ds ≤ 1048576)
def OpenSpec.upto (s : _root_.Go.ChangeSpec) : _root_.Go.OpenSpec := { _root_.Go.OpenSpec.ofChange s with cond := some uptoSmall }

/-- 'laws.FnExactHeadsBound', WHERE WHAT IT READS IS OF BULK AT MOST 1048576: true; the input reads as it did. -/
def fnExactHeadsBoundUptoRow : OpenClaim := { program := "ytgbomnhidfejbaa", sum := "f41ddaae443849918d7ea8e02ea7bc5ec71917c8453ec0c4143ac47a47eecbaa", func := "loop.example/g01346/laws.FnExactHeadsBound", spec := "fnExactHeadsBound", apart := false, narrowed := true }
def FnExactHeadsBoundUptoSaid : Prop := fnExactHeadsBoundUptoRow.holds Try.pinned (OpenSpec.upto fnExactHeadsBoundSpec)

/-- 'laws.FnExactFaultsOf', WHERE WHAT IT READS IS OF BULK AT MOST 1048576: true; the input reads as it did. -/
def fnExactFaultsOfUptoRow : OpenClaim := { program := "ytgbomnhidfejbaa", sum := "f41ddaae443849918d7ea8e02ea7bc5ec71917c8453ec0c4143ac47a47eecbaa", func := "loop.example/g01346/laws.FnExactFaultsOf", spec := "fnExactFaultsOf", apart := false, narrowed := true }
def FnExactFaultsOfUptoSaid : Prop := fnExactFaultsOfUptoRow.holds Try.pinned (OpenSpec.upto fnExactFaultsOfSpec)

/-- 'laws.FnExactWeightedEnds', WHERE WHAT IT READS IS OF BULK AT MOST 1048576: true; the input reads as it did. -/
def fnExactWeightedEndsUptoRow : OpenClaim := { program := "ytgbomnhidfejbaa", sum := "f41ddaae443849918d7ea8e02ea7bc5ec71917c8453ec0c4143ac47a47eecbaa", func := "loop.example/g01346/laws.FnExactWeightedEnds", spec := "fnExactWeightedEnds", apart := false, narrowed := true }
def FnExactWeightedEndsUptoSaid : Prop := fnExactWeightedEndsUptoRow.holds Try.pinned (OpenSpec.upto fnExactWeightedEndsSpec)

/-- 'laws.FnExactCountLate', WHERE WHAT IT READS IS OF BULK AT MOST 1048576: true; the input reads as it did. -/
def fnExactCountLateUptoRow : OpenClaim := { program := "ytgbomnhidfejbaa", sum := "f41ddaae443849918d7ea8e02ea7bc5ec71917c8453ec0c4143ac47a47eecbaa", func := "loop.example/g01346/laws.FnExactCountLate", spec := "fnExactCountLate", apart := false, narrowed := true }
def FnExactCountLateUptoSaid : Prop := fnExactCountLateUptoRow.holds Try.pinned (OpenSpec.upto fnExactCountLateSpec)

/-- 'laws.FnExactMostLate', WHERE WHAT IT READS IS OF BULK AT MOST 1048576: true; the input reads as it did. -/
def fnExactMostLateUptoRow : OpenClaim := { program := "ytgbomnhidfejbaa", sum := "f41ddaae443849918d7ea8e02ea7bc5ec71917c8453ec0c4143ac47a47eecbaa", func := "loop.example/g01346/laws.FnExactMostLate", spec := "fnExactMostLate", apart := false, narrowed := true }
def FnExactMostLateUptoSaid : Prop := fnExactMostLateUptoRow.holds Try.pinned (OpenSpec.upto fnExactMostLateSpec)

/-- 'laws.FnExactLeastSpan', WHERE WHAT IT READS IS OF BULK AT MOST 1048576: true; the input reads as it did. -/
def fnExactLeastSpanUptoRow : OpenClaim := { program := "ytgbomnhidfejbaa", sum := "f41ddaae443849918d7ea8e02ea7bc5ec71917c8453ec0c4143ac47a47eecbaa", func := "loop.example/g01346/laws.FnExactLeastSpan", spec := "fnExactLeastSpan", recurses := true, apart := false, narrowed := true }
def FnExactLeastSpanUptoSaid : Prop := fnExactLeastSpanUptoRow.holds Try.pinned (OpenSpec.upto fnExactLeastSpanSpec)

/-- 'laws.FnExactEndsOf', WHERE WHAT IT READS IS OF BULK AT MOST 1048576: true; the input reads as it did. -/
def fnExactEndsOfUptoRow : OpenClaim := { program := "ytgbomnhidfejbaa", sum := "f41ddaae443849918d7ea8e02ea7bc5ec71917c8453ec0c4143ac47a47eecbaa", func := "loop.example/g01346/laws.FnExactEndsOf", spec := "fnExactEndsOf", apart := false, narrowed := true }
def FnExactEndsOfUptoSaid : Prop := fnExactEndsOfUptoRow.holds Try.pinned (OpenSpec.upto fnExactEndsOfSpec)

/-- 'laws.FnExactLeastLate', WHERE WHAT IT READS IS OF BULK AT MOST 1048576: true; the input reads as it did. -/
def fnExactLeastLateUptoRow : OpenClaim := { program := "ytgbomnhidfejbaa", sum := "f41ddaae443849918d7ea8e02ea7bc5ec71917c8453ec0c4143ac47a47eecbaa", func := "loop.example/g01346/laws.FnExactLeastLate", spec := "fnExactLeastLate", apart := false, narrowed := true }
def FnExactLeastLateUptoSaid : Prop := fnExactLeastLateUptoRow.holds Try.pinned (OpenSpec.upto fnExactLeastLateSpec)

/-- 'laws.FnExactFrontCost', WHERE WHAT IT READS IS OF BULK AT MOST 1048576: true; the input reads as it did. -/
def fnExactFrontCostUptoRow : OpenClaim := { program := "ytgbomnhidfejbaa", sum := "f41ddaae443849918d7ea8e02ea7bc5ec71917c8453ec0c4143ac47a47eecbaa", func := "loop.example/g01346/laws.FnExactFrontCost", spec := "fnExactFrontCost", inPlace := ["slices.overlaps[int64]"], apart := false, narrowed := true }
def FnExactFrontCostUptoSaid : Prop := fnExactFrontCostUptoRow.holds Try.pinned (OpenSpec.upto fnExactFrontCostSpec)

/-- 'laws.FnExactTwoStages', WHERE WHAT IT READS IS OF BULK AT MOST 1048576: true; the input reads as it did. -/
def fnExactTwoStagesUptoRow : OpenClaim := { program := "ytgbomnhidfejbaa", sum := "f41ddaae443849918d7ea8e02ea7bc5ec71917c8453ec0c4143ac47a47eecbaa", func := "loop.example/g01346/laws.FnExactTwoStages", spec := "fnExactTwoStages", unfollowed := true, recurses := true, apart := false, narrowed := true }
def FnExactTwoStagesUptoSaid : Prop := fnExactTwoStagesUptoRow.holds Try.pinned (OpenSpec.upto fnExactTwoStagesSpec)

/-- 'laws.FnExactDueOrder', WHERE WHAT IT READS IS OF BULK AT MOST 1048576: true; the input reads as it did. -/
def fnExactDueOrderUptoRow : OpenClaim := { program := "ytgbomnhidfejbaa", sum := "f41ddaae443849918d7ea8e02ea7bc5ec71917c8453ec0c4143ac47a47eecbaa", func := "loop.example/g01346/laws.FnExactDueOrder", spec := "fnExactDueOrder", unfollowed := true, recurses := true, apart := false, narrowed := true }
def FnExactDueOrderUptoSaid : Prop := fnExactDueOrderUptoRow.holds Try.pinned (OpenSpec.upto fnExactDueOrderSpec)

/-- 'laws.FnExactSmithOrder', WHERE WHAT IT READS IS OF BULK AT MOST 1048576: true; the input reads as it did. -/
def fnExactSmithOrderUptoRow : OpenClaim := { program := "ytgbomnhidfejbaa", sum := "f41ddaae443849918d7ea8e02ea7bc5ec71917c8453ec0c4143ac47a47eecbaa", func := "loop.example/g01346/laws.FnExactSmithOrder", spec := "fnExactSmithOrder", unfollowed := true, recurses := true, apart := false, narrowed := true }
def FnExactSmithOrderUptoSaid : Prop := fnExactSmithOrderUptoRow.holds Try.pinned (OpenSpec.upto fnExactSmithOrderSpec)

end Rows
end Go.Proofs.Ytgbomnhidfejbaa
