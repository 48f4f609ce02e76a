/-
  No cell of these rows narrows 'for every input' (looked for: loops, veiled, ifaces, maps, wideKeys, modest, calm, conditions, laid).
  DERIVED. THE GIVEN ROWS OF THIS SEAT. 4 by the template 'for every input the law returns true; each argument reads behind the call as it read before'; 0 by the template 'total and deterministic' (their statements: YtkankfdpodofjaaTotals.lean).
  GIVEN WITH THE SEED: the statements are not yours to turn. If you find one false, say at which input.
  Laid BY PROGRAM, IN A SANDBOX (cutbox-rows.mjs): the forced cells as the released guide's own fill.sh prints them over the translation fc7362ad3a6ab192… (all of the seat's roots in one cut). By AI agents, Wed Nov 11 2026. No macro, syntax, notation, axiom, sorry.
-/
import Derived.Test.YtkankfdpodofjaaChecked
import GoSem.Claim
import GoSem.ClaimJoined
import GoSem.ClaimMapViews
import Derived.JoinedTies
import Derived.KernelRfl
namespace Go.Proofs.Ytkankfdpodofjaa
/- THE CELL 'sum', in the pinned program and in every row, IS THE sha256 OF THE DUMP (.gsa) THAT YtkankfdpodofjaaProg.lean LOADS. Nothing in Lean hashes anything: it is a label: what it is worth is what the hold of that sum in a sandbox is worth. -/
noncomputable def Try.pinned : Pinned := { name := "ytkankfdpodofjaa", sum := "fc7362ad3a6ab19256556c6b623666f8ffcba828241b6287c20e9075d46bb6ec", checked := Try.checked }
namespace Rows
def none {H : Type} : Left H := { results := [], args := [] }

/-- 'laws.FnBounds': WHATEVER THE INPUT: true; the input reads as it did. -/
def fnBoundsSpec : ChangeSpec := { name := "fnBounds", fn := fun _ => fun
  | [d1, d2] => { results := [.lit (.bool true)], args := [d1, d2] }
  | _ => none }
def fnBoundsRow : OpenClaim := { program := "ytkankfdpodofjaa", sum := "fc7362ad3a6ab19256556c6b623666f8ffcba828241b6287c20e9075d46bb6ec", func := "loop.example/g01346/laws.FnBounds", spec := "fnBounds", unfollowed := true, recurses := true, apart := false }
def FnBoundsSaid : Prop := fnBoundsRow.holds Try.pinned (OpenSpec.ofChange fnBoundsSpec)

/-- ITS FALSE NEIGHBOUR: 'it returns false'. Refute it at one input. -/
def fnBoundsWrong : ChangeSpec := { name := "fnBounds", fn := fun _ => fun
  | [d1, d2] => { results := [.lit (.bool false)], args := [d1, d2] }
  | _ => none }
def FnBoundsWrongFalsely : Prop := fnBoundsRow.holds Try.pinned (OpenSpec.ofChange fnBoundsWrong)

/-- 'laws.FnPacks': WHATEVER THE INPUT: true; the input reads as it did. -/
def fnPacksSpec : ChangeSpec := { name := "fnPacks", fn := fun _ => fun
  | [d1, d2] => { results := [.lit (.bool true)], args := [d1, d2] }
  | _ => none }
def fnPacksRow : OpenClaim := { program := "ytkankfdpodofjaa", sum := "fc7362ad3a6ab19256556c6b623666f8ffcba828241b6287c20e9075d46bb6ec", func := "loop.example/g01346/laws.FnPacks", spec := "fnPacks", unfollowed := true, recurses := true, apart := false }
def FnPacksSaid : Prop := fnPacksRow.holds Try.pinned (OpenSpec.ofChange fnPacksSpec)

/-- ITS FALSE NEIGHBOUR: 'it returns false'. Refute it at one input. -/
def fnPacksWrong : ChangeSpec := { name := "fnPacks", fn := fun _ => fun
  | [d1, d2] => { results := [.lit (.bool false)], args := [d1, d2] }
  | _ => none }
def FnPacksWrongFalsely : Prop := fnPacksRow.holds Try.pinned (OpenSpec.ofChange fnPacksWrong)

/-- 'laws.FnExactRoomsOf': WHATEVER THE INPUT: true; the input reads as it did. -/
def fnExactRoomsOfSpec : ChangeSpec := { name := "fnExactRoomsOf", fn := fun _ => fun
  | [d] => { results := [.lit (.bool true)], args := [d] }
  | _ => none }
def fnExactRoomsOfRow : OpenClaim := { program := "ytkankfdpodofjaa", sum := "fc7362ad3a6ab19256556c6b623666f8ffcba828241b6287c20e9075d46bb6ec", func := "loop.example/g01346/laws.FnExactRoomsOf", spec := "fnExactRoomsOf", unfollowed := true, recurses := true, apart := false }
def FnExactRoomsOfSaid : Prop := fnExactRoomsOfRow.holds Try.pinned (OpenSpec.ofChange fnExactRoomsOfSpec)

/-- ITS FALSE NEIGHBOUR: 'it returns false'. Refute it at one input. -/
def fnExactRoomsOfWrong : ChangeSpec := { name := "fnExactRoomsOf", fn := fun _ => fun
  | [d] => { results := [.lit (.bool false)], args := [d] }
  | _ => none }
def FnExactRoomsOfWrongFalsely : Prop := fnExactRoomsOfRow.holds Try.pinned (OpenSpec.ofChange fnExactRoomsOfWrong)

/-- 'laws.FnTours': WHATEVER THE INPUT: true; the input reads as it did. -/
def fnToursSpec : ChangeSpec := { name := "fnTours", fn := fun _ => fun
  | [d1, d2] => { results := [.lit (.bool true)], args := [d1, d2] }
  | _ => none }
def fnToursRow : OpenClaim := { program := "ytkankfdpodofjaa", sum := "fc7362ad3a6ab19256556c6b623666f8ffcba828241b6287c20e9075d46bb6ec", func := "loop.example/g01346/laws.FnTours", spec := "fnTours", inPlace := ["slices.overlaps[int64]"], unfollowed := true, recurses := true, apart := false }
def FnToursSaid : Prop := fnToursRow.holds Try.pinned (OpenSpec.ofChange fnToursSpec)

/-- ITS FALSE NEIGHBOUR: 'it returns false'. Refute it at one input. -/
def fnToursWrong : ChangeSpec := { name := "fnTours", fn := fun _ => fun
  | [d1, d2] => { results := [.lit (.bool false)], args := [d1, d2] }
  | _ => none }
def FnToursWrongFalsely : Prop := fnToursRow.holds Try.pinned (OpenSpec.ofChange fnToursWrong)

/- THE SECOND FORM. 'bulk': how many values and letters a reading holds, each counted each time it is reached (what is shared counts as often as it is met; a slice's spare places count too). A statement '..UptoSaid' is the law's where the arguments, and the package variables that the reading takes, are together of bulk at most 1048576: NARROWER than '..Said'. Prove '..Said' where nothing that the law and all that it calls make is longer than what came in: it says more and counts as full. Else prove '..UptoSaid'. A law counts once. -/
mutual
def uptoBulk {H : Type} : DataW H → Nat
  | .lit (.string bytes) => bytes.length + 1
  | .lit _ => 1
  | .nil => 1
  | .ptr d => uptoBulk d + 1
  | .slice elems spare => uptoBulkAll elems + uptoBulkAll spare + 1
  | .agg parts => uptoBulkAll parts + 1
  | .iface _ d => uptoBulk d + 1
  | .map entries => uptoBulkEntries entries + 1
  | .held _ => 1
def uptoBulkAll {H : Type} : List (DataW H) → Nat
  | [] => 0
  | d :: r => uptoBulk d + uptoBulkAll r
def uptoBulkEntries {H : Type} : List (Lit × DataW H) → Nat
  | [] => 0
  | x :: r => uptoBulkEntry x + uptoBulkEntries r
def uptoBulkEntry {H : Type} : Lit × DataW H → Nat
  | (.string bytes, d) => bytes.length + uptoBulk d + 1
  | (_, d) => uptoBulk d + 1
 end
def uptoSmall : (H : Type) → List (DataW H) → Bool := fun _ ds => decide (uptoBulkAll ds ≤ 1048576)
def OpenSpec.upto (s : _root_.Go.ChangeSpec) : _root_.Go.OpenSpec := { _root_.Go.OpenSpec.ofChange s with cond := some uptoSmall }

/-- 'laws.FnBounds', WHERE WHAT IT READS IS OF BULK AT MOST 1048576: true; the input reads as it did. -/
def fnBoundsUptoRow : OpenClaim := { program := "ytkankfdpodofjaa", sum := "fc7362ad3a6ab19256556c6b623666f8ffcba828241b6287c20e9075d46bb6ec", func := "loop.example/g01346/laws.FnBounds", spec := "fnBounds", unfollowed := true, recurses := true, apart := false, narrowed := true }
def FnBoundsUptoSaid : Prop := fnBoundsUptoRow.holds Try.pinned (OpenSpec.upto fnBoundsSpec)

/-- 'laws.FnPacks', WHERE WHAT IT READS IS OF BULK AT MOST 1048576: true; the input reads as it did. -/
def fnPacksUptoRow : OpenClaim := { program := "ytkankfdpodofjaa", sum := "fc7362ad3a6ab19256556c6b623666f8ffcba828241b6287c20e9075d46bb6ec", func := "loop.example/g01346/laws.FnPacks", spec := "fnPacks", unfollowed := true, recurses := true, apart := false, narrowed := true }
def FnPacksUptoSaid : Prop := fnPacksUptoRow.holds Try.pinned (OpenSpec.upto fnPacksSpec)

/-- 'laws.FnExactRoomsOf', WHERE WHAT IT READS IS OF BULK AT MOST 1048576: true; the input reads as it did. -/
def fnExactRoomsOfUptoRow : OpenClaim := { program := "ytkankfdpodofjaa", sum := "fc7362ad3a6ab19256556c6b623666f8ffcba828241b6287c20e9075d46bb6ec", func := "loop.example/g01346/laws.FnExactRoomsOf", spec := "fnExactRoomsOf", unfollowed := true, recurses := true, apart := false, narrowed := true }
def FnExactRoomsOfUptoSaid : Prop := fnExactRoomsOfUptoRow.holds Try.pinned (OpenSpec.upto fnExactRoomsOfSpec)

/-- 'laws.FnTours', WHERE WHAT IT READS IS OF BULK AT MOST 1048576: true; the input reads as it did. -/
def fnToursUptoRow : OpenClaim := { program := "ytkankfdpodofjaa", sum := "fc7362ad3a6ab19256556c6b623666f8ffcba828241b6287c20e9075d46bb6ec", func := "loop.example/g01346/laws.FnTours", spec := "fnTours", inPlace := ["slices.overlaps[int64]"], unfollowed := true, recurses := true, apart := false, narrowed := true }
def FnToursUptoSaid : Prop := fnToursUptoRow.holds Try.pinned (OpenSpec.upto fnToursSpec)

end Rows
end Go.Proofs.Ytkankfdpodofjaa
