/-
  No cell of these rows narrows 'for every input' (looked for: loops, veiled, ifaces, maps, wideKeys, modest, calm, conditions, laid).
  DERIVED. THE GIVEN ROWS OF THIS SEAT. 3 by the template 'for every input the law returns true; each argument reads behind the call as it read before'; 0 by the template 'total and deterministic' (their statements: YtocngcpdpeflnaaTotals.lean).
  GIVEN WITH THE SEED: the statements are not yours to turn. If you find one false, say at which input.
  Laid BY PROGRAM, IN A SANDBOX (cutbox-rows.mjs): the forced cells as the released guide's own fill.sh prints them over the translation e59c7da00c199826… (all of the seat's roots in one cut). By AI agents, Wed Nov 11 2026. No macro, syntax, notation, axiom, sorry.
-/
import Derived.Test.YtocngcpdpeflnaaChecked
import GoSem.Claim
import GoSem.ClaimJoined
import GoSem.ClaimMapViews
import Derived.JoinedTies
import Derived.KernelRfl
namespace Go.Proofs.Ytocngcpdpeflnaa
/- THE CELL 'sum', in the pinned program and in every row, IS THE sha256 OF THE DUMP (.gsa) THAT YtocngcpdpeflnaaProg.lean LOADS. Nothing in Lean hashes anything: it is a label: what it is worth is what the hold of that sum in a sandbox is worth. -/
noncomputable def Try.pinned : Pinned := { name := "ytocngcpdpeflnaa", sum := "e59c7da00c1998265e09fccaeb8221f482dba015ae376d28293d41ca579d1566", checked := Try.checked }
namespace Rows
def none {H : Type} : Left H := { results := [], args := [] }

/-- 'laws.FnExactShrinkList': WHATEVER THE INPUT: true; the input reads as it did. -/
def fnExactShrinkListSpec : ChangeSpec := { name := "fnExactShrinkList", fn := fun _ => fun
  | [d1, d2] => { results := [.lit (.bool true)], args := [d1, d2] }
  | _ => none }
def fnExactShrinkListRow : OpenClaim := { program := "ytocngcpdpeflnaa", sum := "e59c7da00c1998265e09fccaeb8221f482dba015ae376d28293d41ca579d1566", func := "loop.example/g01346/laws.FnExactShrinkList", spec := "fnExactShrinkList", apart := false }
def FnExactShrinkListSaid : Prop := fnExactShrinkListRow.holds Try.pinned (OpenSpec.ofChange fnExactShrinkListSpec)

/-- ITS FALSE NEIGHBOUR: 'it returns false'. Refute it at one input. -/
def fnExactShrinkListWrong : ChangeSpec := { name := "fnExactShrinkList", fn := fun _ => fun
  | [d1, d2] => { results := [.lit (.bool false)], args := [d1, d2] }
  | _ => none }
def FnExactShrinkListWrongFalsely : Prop := fnExactShrinkListRow.holds Try.pinned (OpenSpec.ofChange fnExactShrinkListWrong)

/-- 'laws.FnExactDropRow': WHATEVER THE INPUT: true; the input reads as it did. -/
def fnExactDropRowSpec : ChangeSpec := { name := "fnExactDropRow", fn := fun _ => fun
  | [d1, d2] => { results := [.lit (.bool true)], args := [d1, d2] }
  | _ => none }
def fnExactDropRowRow : OpenClaim := { program := "ytocngcpdpeflnaa", sum := "e59c7da00c1998265e09fccaeb8221f482dba015ae376d28293d41ca579d1566", func := "loop.example/g01346/laws.FnExactDropRow", spec := "fnExactDropRow", apart := false }
def FnExactDropRowSaid : Prop := fnExactDropRowRow.holds Try.pinned (OpenSpec.ofChange fnExactDropRowSpec)

/-- ITS FALSE NEIGHBOUR: 'it returns false'. Refute it at one input. -/
def fnExactDropRowWrong : ChangeSpec := { name := "fnExactDropRow", fn := fun _ => fun
  | [d1, d2] => { results := [.lit (.bool false)], args := [d1, d2] }
  | _ => none }
def FnExactDropRowWrongFalsely : Prop := fnExactDropRowRow.holds Try.pinned (OpenSpec.ofChange fnExactDropRowWrong)

/-- 'laws.FnExactShrinkSteps': WHATEVER THE INPUT: true; the input reads as it did. -/
def fnExactShrinkStepsSpec : ChangeSpec := { name := "fnExactShrinkSteps", fn := fun _ => fun
  | [d1, d2, d3, d4] => { results := [.lit (.bool true)], args := [d1, d2, d3, d4] }
  | _ => none }
def fnExactShrinkStepsRow : OpenClaim := { program := "ytocngcpdpeflnaa", sum := "e59c7da00c1998265e09fccaeb8221f482dba015ae376d28293d41ca579d1566", func := "loop.example/g01346/laws.FnExactShrinkSteps", spec := "fnExactShrinkSteps", apart := false }
def FnExactShrinkStepsSaid : Prop := fnExactShrinkStepsRow.holds Try.pinned (OpenSpec.ofChange fnExactShrinkStepsSpec)

/-- ITS FALSE NEIGHBOUR: 'it returns false'. Refute it at one input. -/
def fnExactShrinkStepsWrong : ChangeSpec := { name := "fnExactShrinkSteps", fn := fun _ => fun
  | [d1, d2, d3, d4] => { results := [.lit (.bool false)], args := [d1, d2, d3, d4] }
  | _ => none }
def FnExactShrinkStepsWrongFalsely : Prop := fnExactShrinkStepsRow.holds Try.pinned (OpenSpec.ofChange fnExactShrinkStepsWrong)

/- THE SECOND FORM. 'bulk': how many values and letters a reading holds, each counted each time it is reached (what is shared counts as often as it is met; a slice's spare places count too). A statement '..UptoSaid' is the law's where the arguments, and the package variables that the reading takes, are together of bulk at most 1048576: NARROWER than '..Said'. Prove '..Said' where nothing that the law and all that it calls make is longer than what came in: it says more and counts as full. Else prove '..UptoSaid'. A law counts once. -/
mutual
def uptoBulk {H : Type} : DataW H → Nat
  | .lit (.string bytes) => bytes.length + 1
  | .lit _ => 1
  | .nil => 1
  | .ptr d => uptoBulk d + 1
  | .slice elems spare => uptoBulkAll elems + uptoBulkAll spare + 1
  | .agg parts => uptoBulkAll parts + 1
  | .iface _ d => uptoBulk d + 1
  | .map entries => uptoBulkEntries entries + 1
  | .held _ => 1
def uptoBulkAll {H : Type} : List (DataW H) → Nat
  | [] => 0
  | d :: r => uptoBulk d + uptoBulkAll r
def uptoBulkEntries {H : Type} : List (Lit × DataW H) → Nat
  | [] => 0
  | x :: r => uptoBulkEntry x + uptoBulkEntries r
def uptoBulkEntry {H : Type} : Lit × DataW H → Nat
  | (.string bytes, d) => bytes.length + uptoBulk d + 1
  | (_, d) => uptoBulk d + 1
 end
def uptoSmall : (H : Type) → List (DataW H) → Bool := fun _ ds => decide (uptoBulkAll ds ≤ 1048576)
def OpenSpec.upto (s : _root_.Go.ChangeSpec) : _root_.Go.OpenSpec := { _root_.Go.OpenSpec.ofChange s with cond := some uptoSmall }

/-- 'laws.FnExactShrinkList', WHERE WHAT IT READS IS OF BULK AT MOST 1048576: true; the input reads as it did. -/
def fnExactShrinkListUptoRow : OpenClaim := { program := "ytocngcpdpeflnaa", sum := "e59c7da00c1998265e09fccaeb8221f482dba015ae376d28293d41ca579d1566", func := "loop.example/g01346/laws.FnExactShrinkList", spec := "fnExactShrinkList", apart := false, narrowed := true }
def FnExactShrinkListUptoSaid : Prop := fnExactShrinkListUptoRow.holds Try.pinned (OpenSpec.upto fnExactShrinkListSpec)

/-- 'laws.FnExactDropRow', WHERE WHAT IT READS IS OF BULK AT MOST 1048576: true; the input reads as it did. -/
def fnExactDropRowUptoRow : OpenClaim := { program := "ytocngcpdpeflnaa", sum := "e59c7da00c1998265e09fccaeb8221f482dba015ae376d28293d41ca579d1566", func := "loop.example/g01346/laws.FnExactDropRow", spec := "fnExactDropRow", apart := false, narrowed := true }
def FnExactDropRowUptoSaid : Prop := fnExactDropRowUptoRow.holds Try.pinned (OpenSpec.upto fnExactDropRowSpec)

/-- 'laws.FnExactShrinkSteps', WHERE WHAT IT READS IS OF BULK AT MOST 1048576: true; the input reads as it did. -/
def fnExactShrinkStepsUptoRow : OpenClaim := { program := "ytocngcpdpeflnaa", sum := "e59c7da00c1998265e09fccaeb8221f482dba015ae376d28293d41ca579d1566", func := "loop.example/g01346/laws.FnExactShrinkSteps", spec := "fnExactShrinkSteps", apart := false, narrowed := true }
def FnExactShrinkStepsUptoSaid : Prop := fnExactShrinkStepsUptoRow.holds Try.pinned (OpenSpec.upto fnExactShrinkStepsSpec)

end Rows
end Go.Proofs.Ytocngcpdpeflnaa
