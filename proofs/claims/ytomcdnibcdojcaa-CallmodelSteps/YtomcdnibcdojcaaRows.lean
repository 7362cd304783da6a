/-
  No cell of these rows narrows 'for every input' (looked for: loops, veiled, ifaces, maps, wideKeys, modest, calm, conditions, laid).
  DERIVED. THE GIVEN ROWS OF THIS SEAT. 4 by the template 'for every input the law returns true; each argument reads behind the call as it read before'; 0 by the template 'total and deterministic' (their statements: YtomcdnibcdojcaaTotals.lean).
  GIVEN WITH THE SEED: the statements are not yours to turn. If you find one false, say at which input.
  Laid BY PROGRAM, IN A SANDBOX (cutbox-rows.mjs): the forced cells as the released guide's own fill.sh prints them over the translation e46d316433b13a94… (all of the seat's roots in one cut). By AI agents, Wed Nov 11 2026. No macro, syntax, notation, axiom, sorry.
-/
import Derived.Test.YtomcdnibcdojcaaChecked
import GoSem.Claim
import GoSem.ClaimJoined
import GoSem.ClaimMapViews
import Derived.JoinedTies
import Derived.KernelRfl
namespace Go.Proofs.Ytomcdnibcdojcaa
/- THE CELL 'sum', in the pinned program and in every row, IS THE sha256 OF THE DUMP (.gsa) THAT YtomcdnibcdojcaaProg.lean LOADS. Nothing in Lean hashes anything: it is a label: what it is worth is what the hold of that sum in a sandbox is worth. -/
noncomputable def Try.pinned : Pinned := { name := "ytomcdnibcdojcaa", sum := "e46d316433b13a941e59dd3b7f64e31e00c31ceb1027f94f8b93f9ab62c5c170", checked := Try.checked }
namespace Rows
def none {H : Type} : Left H := { results := [], args := [] }

/-- 'dialtonelaw33.CallmodelEnds': WHATEVER THE INPUT: true; the input reads as it did. -/
def callmodelEndsSpec : ChangeSpec := { name := "callmodelEnds", fn := fun _ => fun
  | [d1, d2, d3] => { results := [.lit (.bool true)], args := [d1, d2, d3] }
  | _ => none }
def callmodelEndsRow : OpenClaim := { program := "ytomcdnibcdojcaa", sum := "e46d316433b13a941e59dd3b7f64e31e00c31ceb1027f94f8b93f9ab62c5c170", func := "dialtone/dialtonelaw33.CallmodelEnds", spec := "callmodelEnds", inPlace := ["internal/bytealg.abigen_runtime_cmpstring"], unfollowed := true, recurses := true, apart := false }
def CallmodelEndsSaid : Prop := callmodelEndsRow.holds Try.pinned (OpenSpec.ofChange callmodelEndsSpec)

/-- ITS FALSE NEIGHBOUR: 'it returns false'. Refute it at one input. -/
def callmodelEndsWrong : ChangeSpec := { name := "callmodelEnds", fn := fun _ => fun
  | [d1, d2, d3] => { results := [.lit (.bool false)], args := [d1, d2, d3] }
  | _ => none }
def CallmodelEndsWrongFalsely : Prop := callmodelEndsRow.holds Try.pinned (OpenSpec.ofChange callmodelEndsWrong)

/-- 'dialtonelaw33.CallmodelKnown': WHATEVER THE INPUT: true; the input reads as it did. -/
def callmodelKnownSpec : ChangeSpec := { name := "callmodelKnown", fn := fun _ => fun
  | [] => { results := [.lit (.bool true)], args := [] }
  | _ => none }
def callmodelKnownRow : OpenClaim := { program := "ytomcdnibcdojcaa", sum := "e46d316433b13a941e59dd3b7f64e31e00c31ceb1027f94f8b93f9ab62c5c170", func := "dialtone/dialtonelaw33.CallmodelKnown", spec := "callmodelKnown", inPlace := ["internal/bytealg.abigen_runtime_cmpstring"], unfollowed := true, recurses := true, apart := false }
def CallmodelKnownSaid : Prop := callmodelKnownRow.holds Try.pinned (OpenSpec.ofChange callmodelKnownSpec)

/-- ITS FALSE NEIGHBOUR: 'it returns false'. Refute it at one input. -/
def callmodelKnownWrong : ChangeSpec := { name := "callmodelKnown", fn := fun _ => fun
  | [] => { results := [.lit (.bool false)], args := [] }
  | _ => none }
def CallmodelKnownWrongFalsely : Prop := callmodelKnownRow.holds Try.pinned (OpenSpec.ofChange callmodelKnownWrong)

/-- 'dialtonelaw33.CallmodelRuns': WHATEVER THE INPUT: true; the input reads as it did. -/
def callmodelRunsSpec : ChangeSpec := { name := "callmodelRuns", fn := fun _ => fun
  | [d] => { results := [.lit (.bool true)], args := [d] }
  | _ => none }
def callmodelRunsRow : OpenClaim := { program := "ytomcdnibcdojcaa", sum := "e46d316433b13a941e59dd3b7f64e31e00c31ceb1027f94f8b93f9ab62c5c170", func := "dialtone/dialtonelaw33.CallmodelRuns", spec := "callmodelRuns", inPlace := ["internal/bytealg.abigen_runtime_cmpstring"], unfollowed := true, recurses := true, apart := false }
def CallmodelRunsSaid : Prop := callmodelRunsRow.holds Try.pinned (OpenSpec.ofChange callmodelRunsSpec)

/-- ITS FALSE NEIGHBOUR: 'it returns false'. Refute it at one input. -/
def callmodelRunsWrong : ChangeSpec := { name := "callmodelRuns", fn := fun _ => fun
  | [d] => { results := [.lit (.bool false)], args := [d] }
  | _ => none }
def CallmodelRunsWrongFalsely : Prop := callmodelRunsRow.holds Try.pinned (OpenSpec.ofChange callmodelRunsWrong)

/-- 'dialtonelaw33.CallmodelSteps': WHATEVER THE INPUT: true; the input reads as it did. -/
def callmodelStepsSpec : ChangeSpec := { name := "callmodelSteps", fn := fun _ => fun
  | [d1, d2] => { results := [.lit (.bool true)], args := [d1, d2] }
  | _ => none }
def callmodelStepsRow : OpenClaim := { program := "ytomcdnibcdojcaa", sum := "e46d316433b13a941e59dd3b7f64e31e00c31ceb1027f94f8b93f9ab62c5c170", func := "dialtone/dialtonelaw33.CallmodelSteps", spec := "callmodelSteps", inPlace := ["internal/bytealg.abigen_runtime_cmpstring"], unfollowed := true, recurses := true, apart := false }
def CallmodelStepsSaid : Prop := callmodelStepsRow.holds Try.pinned (OpenSpec.ofChange callmodelStepsSpec)

/-- ITS FALSE NEIGHBOUR: 'it returns false'. Refute it at one input. -/
def callmodelStepsWrong : ChangeSpec := { name := "callmodelSteps", fn := fun _ => fun
  | [d1, d2] => { results := [.lit (.bool false)], args := [d1, d2] }
  | _ => none }
def CallmodelStepsWrongFalsely : Prop := callmodelStepsRow.holds Try.pinned (OpenSpec.ofChange callmodelStepsWrong)

/- THE SECOND FORM. 'bulk': how many values and letters a reading holds, each counted each time it is reached (what is shared counts as often as it is met; a slice's spare places count too). A statement '..UptoSaid' is the law's where the arguments, and the package variables that the reading takes, are together of bulk at most 1048576: NARROWER than '..Said'. Prove '..Said' where nothing that the law and all that it calls make is longer than what came in: it says more and counts as full. Else prove '..UptoSaid'. A law counts once. -/
mutual
def uptoBulk {H : Type} : DataW H → Nat
  | .lit (.string bytes) => bytes.length + 1
  | .lit _ => 1
  | .nil => 1
  | .ptr d => uptoBulk d + 1
  | .slice elems spare => uptoBulkAll elems + uptoBulkAll spare + 1
  | .agg parts => uptoBulkAll parts + 1
  | .iface _ d => uptoBulk d + 1
  | .map entries => uptoBulkEntries entries + 1
  | .held _ => 1
def uptoBulkAll {H : Type} : List (DataW H) → Nat
  | [] => 0
  | d :: r => uptoBulk d + uptoBulkAll r
def uptoBulkEntries {H : Type} : List (Lit × DataW H) → Nat
  | [] => 0
  | x :: r => uptoBulkEntry x + uptoBulkEntries r
def uptoBulkEntry {H : Type} : Lit × DataW H → Nat
  | (.string bytes, d) => bytes.length + uptoBulk d + 1
  | (_, d) => uptoBulk d + 1
 end
def uptoSmall : (H : Type) → List (DataW H) → Bool := fun _ ds => decide (uptoBulkAll ds ≤ 1048576)
def OpenSpec.upto (s : _root_.Go.ChangeSpec) : _root_.Go.OpenSpec := { _root_.Go.OpenSpec.ofChange s with cond := some uptoSmall }

/-- 'dialtonelaw33.CallmodelEnds', WHERE WHAT IT READS IS OF BULK AT MOST 1048576: true; the input reads as it did. -/
def callmodelEndsUptoRow : OpenClaim := { program := "ytomcdnibcdojcaa", sum := "e46d316433b13a941e59dd3b7f64e31e00c31ceb1027f94f8b93f9ab62c5c170", func := "dialtone/dialtonelaw33.CallmodelEnds", spec := "callmodelEnds", inPlace := ["internal/bytealg.abigen_runtime_cmpstring"], unfollowed := true, recurses := true, apart := false, narrowed := true }
def CallmodelEndsUptoSaid : Prop := callmodelEndsUptoRow.holds Try.pinned (OpenSpec.upto callmodelEndsSpec)

/-- 'dialtonelaw33.CallmodelKnown', WHERE WHAT IT READS IS OF BULK AT MOST 1048576: true; the input reads as it did. -/
def callmodelKnownUptoRow : OpenClaim := { program := "ytomcdnibcdojcaa", sum := "e46d316433b13a941e59dd3b7f64e31e00c31ceb1027f94f8b93f9ab62c5c170", func := "dialtone/dialtonelaw33.CallmodelKnown", spec := "callmodelKnown", inPlace := ["internal/bytealg.abigen_runtime_cmpstring"], unfollowed := true, recurses := true, apart := false, narrowed := true }
def CallmodelKnownUptoSaid : Prop := callmodelKnownUptoRow.holds Try.pinned (OpenSpec.upto callmodelKnownSpec)

/-- 'dialtonelaw33.CallmodelRuns', WHERE WHAT IT READS IS OF BULK AT MOST 1048576: true; the input reads as it did. -/
def callmodelRunsUptoRow : OpenClaim := { program := "ytomcdnibcdojcaa", sum := "e46d316433b13a941e59dd3b7f64e31e00c31ceb1027f94f8b93f9ab62c5c170", func := "dialtone/dialtonelaw33.CallmodelRuns", spec := "callmodelRuns", inPlace := ["internal/bytealg.abigen_runtime_cmpstring"], unfollowed := true, recurses := true, apart := false, narrowed := true }
def CallmodelRunsUptoSaid : Prop := callmodelRunsUptoRow.holds Try.pinned (OpenSpec.upto callmodelRunsSpec)

/-- 'dialtonelaw33.CallmodelSteps', WHERE WHAT IT READS IS OF BULK AT MOST 1048576: true; the input reads as it did. -/
def callmodelStepsUptoRow : OpenClaim := { program := "ytomcdnibcdojcaa", sum := "e46d316433b13a941e59dd3b7f64e31e00c31ceb1027f94f8b93f9ab62c5c170", func := "dialtone/dialtonelaw33.CallmodelSteps", spec := "callmodelSteps", inPlace := ["internal/bytealg.abigen_runtime_cmpstring"], unfollowed := true, recurses := true, apart := false, narrowed := true }
def CallmodelStepsUptoSaid : Prop := callmodelStepsUptoRow.holds Try.pinned (OpenSpec.upto callmodelStepsSpec)

end Rows
end Go.Proofs.Ytomcdnibcdojcaa
