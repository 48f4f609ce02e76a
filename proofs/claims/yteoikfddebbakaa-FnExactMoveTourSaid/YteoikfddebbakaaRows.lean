/-
  No cell of these rows narrows 'for every input' (looked for: loops, veiled, ifaces, maps, wideKeys, modest, calm, conditions, laid).
  DERIVED. THE GIVEN ROWS OF THIS SEAT. 7 by the template 'for every input the law returns true; each argument reads behind the call as it read before'; 0 by the template 'total and deterministic' (their statements: YteoikfddebbakaaTotals.lean).
  GIVEN WITH THE SEED: the statements are not yours to turn. If you find one false, say at which input.
  Laid BY PROGRAM, IN A SANDBOX (cutbox-rows.mjs): the forced cells as the released guide's own fill.sh prints them over the translation d17492ebc4caba69… (all of the seat's roots in one cut). By AI agents, Wed Nov 11 2026. No macro, syntax, notation, axiom, sorry.
-/
import Derived.Test.YteoikfddebbakaaChecked
import GoSem.Claim
import GoSem.ClaimJoined
import GoSem.ClaimMapViews
import Derived.JoinedTies
import Derived.KernelRfl
namespace Go.Proofs.Yteoikfddebbakaa
/- THE CELL 'sum', in the pinned program and in every row, IS THE sha256 OF THE DUMP (.gsa) THAT YteoikfddebbakaaProg.lean LOADS. Nothing in Lean hashes anything: it is a label: what it is worth is what the hold of that sum in a sandbox is worth. -/
noncomputable def Try.pinned : Pinned := { name := "yteoikfddebbakaa", sum := "d17492ebc4caba6993b85c011d8e97bcda4882f84d75dbf0efc69d9b8d04252f", checked := Try.checked }
namespace Rows
def none {H : Type} : Left H := { results := [], args := [] }

/-- 'laws.FnExactAtMostForm': WHATEVER THE INPUT: true; the input reads as it did. -/
def fnExactAtMostFormSpec : ChangeSpec := { name := "fnExactAtMostForm", fn := fun _ => fun
  | [d1, d2] => { results := [.lit (.bool true)], args := [d1, d2] }
  | _ => none }
def fnExactAtMostFormRow : OpenClaim := { program := "yteoikfddebbakaa", sum := "d17492ebc4caba6993b85c011d8e97bcda4882f84d75dbf0efc69d9b8d04252f", func := "loop.example/g01346/laws.FnExactAtMostForm", spec := "fnExactAtMostForm", recurses := true, apart := false }
def FnExactAtMostFormSaid : Prop := fnExactAtMostFormRow.holds Try.pinned (OpenSpec.ofChange fnExactAtMostFormSpec)

/-- ITS FALSE NEIGHBOUR: 'it returns false'. Refute it at one input. -/
def fnExactAtMostFormWrong : ChangeSpec := { name := "fnExactAtMostForm", fn := fun _ => fun
  | [d1, d2] => { results := [.lit (.bool false)], args := [d1, d2] }
  | _ => none }
def FnExactAtMostFormWrongFalsely : Prop := fnExactAtMostFormRow.holds Try.pinned (OpenSpec.ofChange fnExactAtMostFormWrong)

/-- 'laws.FnExactLeastLate': WHATEVER THE INPUT: true; the input reads as it did. -/
def fnExactLeastLateSpec : ChangeSpec := { name := "fnExactLeastLate", fn := fun _ => fun
  | [d] => { results := [.lit (.bool true)], args := [d] }
  | _ => none }
def fnExactLeastLateRow : OpenClaim := { program := "yteoikfddebbakaa", sum := "d17492ebc4caba6993b85c011d8e97bcda4882f84d75dbf0efc69d9b8d04252f", func := "loop.example/g01346/laws.FnExactLeastLate", spec := "fnExactLeastLate", apart := false }
def FnExactLeastLateSaid : Prop := fnExactLeastLateRow.holds Try.pinned (OpenSpec.ofChange fnExactLeastLateSpec)

/-- ITS FALSE NEIGHBOUR: 'it returns false'. Refute it at one input. -/
def fnExactLeastLateWrong : ChangeSpec := { name := "fnExactLeastLate", fn := fun _ => fun
  | [d] => { results := [.lit (.bool false)], args := [d] }
  | _ => none }
def FnExactLeastLateWrongFalsely : Prop := fnExactLeastLateRow.holds Try.pinned (OpenSpec.ofChange fnExactLeastLateWrong)

/-- 'laws.FnExactLeastSpan': WHATEVER THE INPUT: true; the input reads as it did. -/
def fnExactLeastSpanSpec : ChangeSpec := { name := "fnExactLeastSpan", fn := fun _ => fun
  | [d1, d2] => { results := [.lit (.bool true)], args := [d1, d2] }
  | _ => none }
def fnExactLeastSpanRow : OpenClaim := { program := "yteoikfddebbakaa", sum := "d17492ebc4caba6993b85c011d8e97bcda4882f84d75dbf0efc69d9b8d04252f", func := "loop.example/g01346/laws.FnExactLeastSpan", spec := "fnExactLeastSpan", recurses := true, apart := false }
def FnExactLeastSpanSaid : Prop := fnExactLeastSpanRow.holds Try.pinned (OpenSpec.ofChange fnExactLeastSpanSpec)

/-- ITS FALSE NEIGHBOUR: 'it returns false'. Refute it at one input. -/
def fnExactLeastSpanWrong : ChangeSpec := { name := "fnExactLeastSpan", fn := fun _ => fun
  | [d1, d2] => { results := [.lit (.bool false)], args := [d1, d2] }
  | _ => none }
def FnExactLeastSpanWrongFalsely : Prop := fnExactLeastSpanRow.holds Try.pinned (OpenSpec.ofChange fnExactLeastSpanWrong)

/-- 'laws.FnExactMoveTour': WHATEVER THE INPUT: true; the input reads as it did. -/
def fnExactMoveTourSpec : ChangeSpec := { name := "fnExactMoveTour", fn := fun _ => fun
  | [d1, d2] => { results := [.lit (.bool true)], args := [d1, d2] }
  | _ => none }
def fnExactMoveTourRow : OpenClaim := { program := "yteoikfddebbakaa", sum := "d17492ebc4caba6993b85c011d8e97bcda4882f84d75dbf0efc69d9b8d04252f", func := "loop.example/g01346/laws.FnExactMoveTour", spec := "fnExactMoveTour", inPlace := ["slices.overlaps[int64]"], unfollowed := true, recurses := true, apart := false }
def FnExactMoveTourSaid : Prop := fnExactMoveTourRow.holds Try.pinned (OpenSpec.ofChange fnExactMoveTourSpec)

/-- ITS FALSE NEIGHBOUR: 'it returns false'. Refute it at one input. -/
def fnExactMoveTourWrong : ChangeSpec := { name := "fnExactMoveTour", fn := fun _ => fun
  | [d1, d2] => { results := [.lit (.bool false)], args := [d1, d2] }
  | _ => none }
def FnExactMoveTourWrongFalsely : Prop := fnExactMoveTourRow.holds Try.pinned (OpenSpec.ofChange fnExactMoveTourWrong)

/-- 'laws.FnExactTourBound': WHATEVER THE INPUT: true; the input reads as it did. -/
def fnExactTourBoundSpec : ChangeSpec := { name := "fnExactTourBound", fn := fun _ => fun
  | [d] => { results := [.lit (.bool true)], args := [d] }
  | _ => none }
def fnExactTourBoundRow : OpenClaim := { program := "yteoikfddebbakaa", sum := "d17492ebc4caba6993b85c011d8e97bcda4882f84d75dbf0efc69d9b8d04252f", func := "loop.example/g01346/laws.FnExactTourBound", spec := "fnExactTourBound", unfollowed := true, recurses := true, apart := false }
def FnExactTourBoundSaid : Prop := fnExactTourBoundRow.holds Try.pinned (OpenSpec.ofChange fnExactTourBoundSpec)

/-- ITS FALSE NEIGHBOUR: 'it returns false'. Refute it at one input. -/
def fnExactTourBoundWrong : ChangeSpec := { name := "fnExactTourBound", fn := fun _ => fun
  | [d] => { results := [.lit (.bool false)], args := [d] }
  | _ => none }
def FnExactTourBoundWrongFalsely : Prop := fnExactTourBoundRow.holds Try.pinned (OpenSpec.ofChange fnExactTourBoundWrong)

/-- 'laws.FnExactRaisedBound': WHATEVER THE INPUT: true; the input reads as it did. -/
def fnExactRaisedBoundSpec : ChangeSpec := { name := "fnExactRaisedBound", fn := fun _ => fun
  | [d1, d2] => { results := [.lit (.bool true)], args := [d1, d2] }
  | _ => none }
def fnExactRaisedBoundRow : OpenClaim := { program := "yteoikfddebbakaa", sum := "d17492ebc4caba6993b85c011d8e97bcda4882f84d75dbf0efc69d9b8d04252f", func := "loop.example/g01346/laws.FnExactRaisedBound", spec := "fnExactRaisedBound", unfollowed := true, recurses := true, apart := false }
def FnExactRaisedBoundSaid : Prop := fnExactRaisedBoundRow.holds Try.pinned (OpenSpec.ofChange fnExactRaisedBoundSpec)

/-- ITS FALSE NEIGHBOUR: 'it returns false'. Refute it at one input. -/
def fnExactRaisedBoundWrong : ChangeSpec := { name := "fnExactRaisedBound", fn := fun _ => fun
  | [d1, d2] => { results := [.lit (.bool false)], args := [d1, d2] }
  | _ => none }
def FnExactRaisedBoundWrongFalsely : Prop := fnExactRaisedBoundRow.holds Try.pinned (OpenSpec.ofChange fnExactRaisedBoundWrong)

/-- 'laws.FnExactRoomsOf': WHATEVER THE INPUT: true; the input reads as it did. -/
def fnExactRoomsOfSpec : ChangeSpec := { name := "fnExactRoomsOf", fn := fun _ => fun
  | [d] => { results := [.lit (.bool true)], args := [d] }
  | _ => none }
def fnExactRoomsOfRow : OpenClaim := { program := "yteoikfddebbakaa", sum := "d17492ebc4caba6993b85c011d8e97bcda4882f84d75dbf0efc69d9b8d04252f", func := "loop.example/g01346/laws.FnExactRoomsOf", spec := "fnExactRoomsOf", unfollowed := true, recurses := true, apart := false }
def FnExactRoomsOfSaid : Prop := fnExactRoomsOfRow.holds Try.pinned (OpenSpec.ofChange fnExactRoomsOfSpec)

/-- ITS FALSE NEIGHBOUR: 'it returns false'. Refute it at one input. -/
def fnExactRoomsOfWrong : ChangeSpec := { name := "fnExactRoomsOf", fn := fun _ => fun
  | [d] => { results := [.lit (.bool false)], args := [d] }
  | _ => none }
def FnExactRoomsOfWrongFalsely : Prop := fnExactRoomsOfRow.holds Try.pinned (OpenSpec.ofChange fnExactRoomsOfWrong)

/- THE SECOND FORM. 'bulk': how many values and letters a reading holds, each counted each time it is reached (what is shared counts as often as it is met; a slice's spare places count too). A statement '..UptoSaid' is the law's where the arguments, and the package variables that the reading takes, are together of bulk at most 1048576: NARROWER than '..Said'. Prove '..Said' where nothing that the law and all that it calls make is longer than what came in: it says more and counts as full. Else prove '..UptoSaid'. A law counts once. -/
mutual
def uptoBulk {H : Type} : DataW H → Nat
  | .lit (.string bytes) => bytes.length + 1
  | .lit _ => 1
  | .nil => 1
  | .ptr d => uptoBulk d + 1
  | .slice elems spare => uptoBulkAll elems + uptoBulkAll spare + 1
  | .agg parts => uptoBulkAll parts + 1
  | .iface _ d => uptoBulk d + 1
  | .map entries => uptoBulkEntries entries + 1
  | .held _ => 1
def uptoBulkAll {H : Type} : List (DataW H) → Nat
  | [] => 0
  | d :: r => uptoBulk d + uptoBulkAll r
def uptoBulkEntries {H : Type} : List (Lit × DataW H) → Nat
  | [] => 0
  | x :: r => uptoBulkEntry x + uptoBulkEntries r
def uptoBulkEntry {H : Type} : Lit × DataW H → Nat
  | (.string bytes, d) => bytes.length + uptoBulk d + 1
  | (_, d) => uptoBulk d + 1
 end
def uptoSmall : (H : Type) → List (DataW H) → Bool := fun _ ds => decide (uptoBulkAll ds ≤ 1048576)
def OpenSpec.upto (s : _root_.Go.ChangeSpec) : _root_.Go.OpenSpec := { _root_.Go.OpenSpec.ofChange s with cond := some uptoSmall }

/-- 'laws.FnExactAtMostForm', WHERE WHAT IT READS IS OF BULK AT MOST 1048576: true; the input reads as it did. -/
def fnExactAtMostFormUptoRow : OpenClaim := { program := "yteoikfddebbakaa", sum := "d17492ebc4caba6993b85c011d8e97bcda4882f84d75dbf0efc69d9b8d04252f", func := "loop.example/g01346/laws.FnExactAtMostForm", spec := "fnExactAtMostForm", recurses := true, apart := false, narrowed := true }
def FnExactAtMostFormUptoSaid : Prop := fnExactAtMostFormUptoRow.holds Try.pinned (OpenSpec.upto fnExactAtMostFormSpec)

/-- 'laws.FnExactLeastLate', WHERE WHAT IT READS IS OF BULK AT MOST 1048576: true; the input reads as it did. -/
def fnExactLeastLateUptoRow : OpenClaim := { program := "yteoikfddebbakaa", sum := "d17492ebc4caba6993b85c011d8e97bcda4882f84d75dbf0efc69d9b8d04252f", func := "loop.example/g01346/laws.FnExactLeastLate", spec := "fnExactLeastLate", apart := false, narrowed := true }
def FnExactLeastLateUptoSaid : Prop := fnExactLeastLateUptoRow.holds Try.pinned (OpenSpec.upto fnExactLeastLateSpec)

/-- 'laws.FnExactLeastSpan', WHERE WHAT IT READS IS OF BULK AT MOST 1048576: true; the input reads as it did. -/
def fnExactLeastSpanUptoRow : OpenClaim := { program := "yteoikfddebbakaa", sum := "d17492ebc4caba6993b85c011d8e97bcda4882f84d75dbf0efc69d9b8d04252f", func := "loop.example/g01346/laws.FnExactLeastSpan", spec := "fnExactLeastSpan", recurses := true, apart := false, narrowed := true }
def FnExactLeastSpanUptoSaid : Prop := fnExactLeastSpanUptoRow.holds Try.pinned (OpenSpec.upto fnExactLeastSpanSpec)

/-- 'laws.FnExactMoveTour', WHERE WHAT IT READS IS OF BULK AT MOST 1048576: true; the input reads as it did. -/
def fnExactMoveTourUptoRow : OpenClaim := { program := "yteoikfddebbakaa", sum := "d17492ebc4caba6993b85c011d8e97bcda4882f84d75dbf0efc69d9b8d04252f", func := "loop.example/g01346/laws.FnExactMoveTour", spec := "fnExactMoveTour", inPlace := ["slices.overlaps[int64]"], unfollowed := true, recurses := true, apart := false, narrowed := true }
def FnExactMoveTourUptoSaid : Prop := fnExactMoveTourUptoRow.holds Try.pinned (OpenSpec.upto fnExactMoveTourSpec)

/-- 'laws.FnExactTourBound', WHERE WHAT IT READS IS OF BULK AT MOST 1048576: true; the input reads as it did. -/
def fnExactTourBoundUptoRow : OpenClaim := { program := "yteoikfddebbakaa", sum := "d17492ebc4caba6993b85c011d8e97bcda4882f84d75dbf0efc69d9b8d04252f", func := "loop.example/g01346/laws.FnExactTourBound", spec := "fnExactTourBound", unfollowed := true, recurses := true, apart := false, narrowed := true }
def FnExactTourBoundUptoSaid : Prop := fnExactTourBoundUptoRow.holds Try.pinned (OpenSpec.upto fnExactTourBoundSpec)

/-- 'laws.FnExactRaisedBound', WHERE WHAT IT READS IS OF BULK AT MOST 1048576: true; the input reads as it did. -/
def fnExactRaisedBoundUptoRow : OpenClaim := { program := "yteoikfddebbakaa", sum := "d17492ebc4caba6993b85c011d8e97bcda4882f84d75dbf0efc69d9b8d04252f", func := "loop.example/g01346/laws.FnExactRaisedBound", spec := "fnExactRaisedBound", unfollowed := true, recurses := true, apart := false, narrowed := true }
def FnExactRaisedBoundUptoSaid : Prop := fnExactRaisedBoundUptoRow.holds Try.pinned (OpenSpec.upto fnExactRaisedBoundSpec)

/-- 'laws.FnExactRoomsOf', WHERE WHAT IT READS IS OF BULK AT MOST 1048576: true; the input reads as it did. -/
def fnExactRoomsOfUptoRow : OpenClaim := { program := "yteoikfddebbakaa", sum := "d17492ebc4caba6993b85c011d8e97bcda4882f84d75dbf0efc69d9b8d04252f", func := "loop.example/g01346/laws.FnExactRoomsOf", spec := "fnExactRoomsOf", unfollowed := true, recurses := true, apart := false, narrowed := true }
def FnExactRoomsOfUptoSaid : Prop := fnExactRoomsOfUptoRow.holds Try.pinned (OpenSpec.upto fnExactRoomsOfSpec)

end Rows
end Go.Proofs.Yteoikfddebbakaa
