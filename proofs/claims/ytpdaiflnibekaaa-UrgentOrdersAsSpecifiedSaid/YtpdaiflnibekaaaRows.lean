/-
  No cell of these rows narrows 'for every input' (looked for: loops, veiled, ifaces, maps, wideKeys, modest, calm, conditions, laid).
  DERIVED. THE GIVEN ROWS OF THIS SEAT. 8 by the template 'for every input the law returns true; each argument reads behind the call as it read before'; 0 by the template 'total and deterministic' (their statements: YtpdaiflnibekaaaTotals.lean).
  GIVEN WITH THE SEED: the statements are not yours to turn. If you find one false, say at which input.
  Laid BY PROGRAM, IN A SANDBOX (cutbox-rows.mjs): the forced cells as the released guide's own fill.sh prints them over the translation 9463d737b8e67b90… (all of the seat's roots in one cut). By AI agents, Wed Nov 11 2026. No macro, syntax, notation, axiom, sorry.
-/
import Derived.Test.YtpdaiflnibekaaaChecked
import GoSem.Claim
import GoSem.ClaimJoined
import GoSem.ClaimMapViews
import Derived.JoinedTies
import Derived.KernelRfl
namespace Go.Proofs.Ytpdaiflnibekaaa
/- THE CELL 'sum', in the pinned program and in every row, IS THE sha256 OF THE DUMP (.gsa) THAT YtpdaiflnibekaaaProg.lean LOADS. Nothing in Lean hashes anything: it is a label: what it is worth is what the hold of that sum in a sandbox is worth. -/
noncomputable def Try.pinned : Pinned := { name := "ytpdaiflnibekaaa", sum := "9463d737b8e67b903eea7e64393ba15ccfcf00e0420b773b77d18ff6531ef26a", checked := Try.checked }
namespace Rows
def none {H : Type} : Left H := { results := [], args := [] }

/-- 'quietuslaw20.UrgentFinishesAsSpecified': WHATEVER THE INPUT: true; the input reads as it did. -/
def urgentFinishesAsSpecifiedSpec : ChangeSpec := { name := "urgentFinishesAsSpecified", fn := fun _ => fun
  | [d1, d2, d3] => { results := [.lit (.bool true)], args := [d1, d2, d3] }
  | _ => none }
def urgentFinishesAsSpecifiedRow : OpenClaim := { program := "ytpdaiflnibekaaa", sum := "9463d737b8e67b903eea7e64393ba15ccfcf00e0420b773b77d18ff6531ef26a", func := "quietus/quietuslaw20.UrgentFinishesAsSpecified", spec := "urgentFinishesAsSpecified", unfollowed := true, recurses := true, apart := false }
def UrgentFinishesAsSpecifiedSaid : Prop := urgentFinishesAsSpecifiedRow.holds Try.pinned (OpenSpec.ofChange urgentFinishesAsSpecifiedSpec)

/-- ITS FALSE NEIGHBOUR: 'it returns false'. Refute it at one input. -/
def urgentFinishesAsSpecifiedWrong : ChangeSpec := { name := "urgentFinishesAsSpecified", fn := fun _ => fun
  | [d1, d2, d3] => { results := [.lit (.bool false)], args := [d1, d2, d3] }
  | _ => none }
def UrgentFinishesAsSpecifiedWrongFalsely : Prop := urgentFinishesAsSpecifiedRow.holds Try.pinned (OpenSpec.ofChange urgentFinishesAsSpecifiedWrong)

/-- 'quietuslaw20.UrgentOrdersAsSpecified': WHATEVER THE INPUT: true; the input reads as it did. -/
def urgentOrdersAsSpecifiedSpec : ChangeSpec := { name := "urgentOrdersAsSpecified", fn := fun _ => fun
  | [d] => { results := [.lit (.bool true)], args := [d] }
  | _ => none }
def urgentOrdersAsSpecifiedRow : OpenClaim := { program := "ytpdaiflnibekaaa", sum := "9463d737b8e67b903eea7e64393ba15ccfcf00e0420b773b77d18ff6531ef26a", func := "quietus/quietuslaw20.UrgentOrdersAsSpecified", spec := "urgentOrdersAsSpecified", unfollowed := true, recurses := true, apart := false }
def UrgentOrdersAsSpecifiedSaid : Prop := urgentOrdersAsSpecifiedRow.holds Try.pinned (OpenSpec.ofChange urgentOrdersAsSpecifiedSpec)

/-- ITS FALSE NEIGHBOUR: 'it returns false'. Refute it at one input. -/
def urgentOrdersAsSpecifiedWrong : ChangeSpec := { name := "urgentOrdersAsSpecified", fn := fun _ => fun
  | [d] => { results := [.lit (.bool false)], args := [d] }
  | _ => none }
def UrgentOrdersAsSpecifiedWrongFalsely : Prop := urgentOrdersAsSpecifiedRow.holds Try.pinned (OpenSpec.ofChange urgentOrdersAsSpecifiedWrong)

/-- 'quietuslaw20.UrgentAcceptsAsSpecified': WHATEVER THE INPUT: true; the input reads as it did. -/
def urgentAcceptsAsSpecifiedSpec : ChangeSpec := { name := "urgentAcceptsAsSpecified", fn := fun _ => fun
  | [d1, d2, d3] => { results := [.lit (.bool true)], args := [d1, d2, d3] }
  | _ => none }
def urgentAcceptsAsSpecifiedRow : OpenClaim := { program := "ytpdaiflnibekaaa", sum := "9463d737b8e67b903eea7e64393ba15ccfcf00e0420b773b77d18ff6531ef26a", func := "quietus/quietuslaw20.UrgentAcceptsAsSpecified", spec := "urgentAcceptsAsSpecified", unfollowed := true, recurses := true, apart := false }
def UrgentAcceptsAsSpecifiedSaid : Prop := urgentAcceptsAsSpecifiedRow.holds Try.pinned (OpenSpec.ofChange urgentAcceptsAsSpecifiedSpec)

/-- ITS FALSE NEIGHBOUR: 'it returns false'. Refute it at one input. -/
def urgentAcceptsAsSpecifiedWrong : ChangeSpec := { name := "urgentAcceptsAsSpecified", fn := fun _ => fun
  | [d1, d2, d3] => { results := [.lit (.bool false)], args := [d1, d2, d3] }
  | _ => none }
def UrgentAcceptsAsSpecifiedWrongFalsely : Prop := urgentAcceptsAsSpecifiedRow.holds Try.pinned (OpenSpec.ofChange urgentAcceptsAsSpecifiedWrong)

/-- 'quietuslaw20.UrgentProves': WHATEVER THE INPUT: true; the input reads as it did. -/
def urgentProvesSpec : ChangeSpec := { name := "urgentProves", fn := fun _ => fun
  | [d1, d2, d3] => { results := [.lit (.bool true)], args := [d1, d2, d3] }
  | _ => none }
def urgentProvesRow : OpenClaim := { program := "ytpdaiflnibekaaa", sum := "9463d737b8e67b903eea7e64393ba15ccfcf00e0420b773b77d18ff6531ef26a", func := "quietus/quietuslaw20.UrgentProves", spec := "urgentProves", unfollowed := true, recurses := true, apart := false }
def UrgentProvesSaid : Prop := urgentProvesRow.holds Try.pinned (OpenSpec.ofChange urgentProvesSpec)

/-- ITS FALSE NEIGHBOUR: 'it returns false'. Refute it at one input. -/
def urgentProvesWrong : ChangeSpec := { name := "urgentProves", fn := fun _ => fun
  | [d1, d2, d3] => { results := [.lit (.bool false)], args := [d1, d2, d3] }
  | _ => none }
def UrgentProvesWrongFalsely : Prop := urgentProvesRow.holds Try.pinned (OpenSpec.ofChange urgentProvesWrong)

/-- 'quietuslaw20.UrgentCrowds': WHATEVER THE INPUT: true; the input reads as it did. -/
def urgentCrowdsSpec : ChangeSpec := { name := "urgentCrowds", fn := fun _ => fun
  | [d1, d2] => { results := [.lit (.bool true)], args := [d1, d2] }
  | _ => none }
def urgentCrowdsRow : OpenClaim := { program := "ytpdaiflnibekaaa", sum := "9463d737b8e67b903eea7e64393ba15ccfcf00e0420b773b77d18ff6531ef26a", func := "quietus/quietuslaw20.UrgentCrowds", spec := "urgentCrowds", unfollowed := true, recurses := true, apart := false }
def UrgentCrowdsSaid : Prop := urgentCrowdsRow.holds Try.pinned (OpenSpec.ofChange urgentCrowdsSpec)

/-- ITS FALSE NEIGHBOUR: 'it returns false'. Refute it at one input. -/
def urgentCrowdsWrong : ChangeSpec := { name := "urgentCrowds", fn := fun _ => fun
  | [d1, d2] => { results := [.lit (.bool false)], args := [d1, d2] }
  | _ => none }
def UrgentCrowdsWrongFalsely : Prop := urgentCrowdsRow.holds Try.pinned (OpenSpec.ofChange urgentCrowdsWrong)

/-- 'quietuslaw20.UrgentGivesUpTheLeast': WHATEVER THE INPUT: true; the input reads as it did. -/
def urgentGivesUpTheLeastSpec : ChangeSpec := { name := "urgentGivesUpTheLeast", fn := fun _ => fun
  | [d1, d2] => { results := [.lit (.bool true)], args := [d1, d2] }
  | _ => none }
def urgentGivesUpTheLeastRow : OpenClaim := { program := "ytpdaiflnibekaaa", sum := "9463d737b8e67b903eea7e64393ba15ccfcf00e0420b773b77d18ff6531ef26a", func := "quietus/quietuslaw20.UrgentGivesUpTheLeast", spec := "urgentGivesUpTheLeast", unfollowed := true, recurses := true, apart := false }
def UrgentGivesUpTheLeastSaid : Prop := urgentGivesUpTheLeastRow.holds Try.pinned (OpenSpec.ofChange urgentGivesUpTheLeastSpec)

/-- ITS FALSE NEIGHBOUR: 'it returns false'. Refute it at one input. -/
def urgentGivesUpTheLeastWrong : ChangeSpec := { name := "urgentGivesUpTheLeast", fn := fun _ => fun
  | [d1, d2] => { results := [.lit (.bool false)], args := [d1, d2] }
  | _ => none }
def UrgentGivesUpTheLeastWrongFalsely : Prop := urgentGivesUpTheLeastRow.holds Try.pinned (OpenSpec.ofChange urgentGivesUpTheLeastWrong)

/-- 'quietuslaw20.UrgentFollowsRatios': WHATEVER THE INPUT: true; the input reads as it did. -/
def urgentFollowsRatiosSpec : ChangeSpec := { name := "urgentFollowsRatios", fn := fun _ => fun
  | [d] => { results := [.lit (.bool true)], args := [d] }
  | _ => none }
def urgentFollowsRatiosRow : OpenClaim := { program := "ytpdaiflnibekaaa", sum := "9463d737b8e67b903eea7e64393ba15ccfcf00e0420b773b77d18ff6531ef26a", func := "quietus/quietuslaw20.UrgentFollowsRatios", spec := "urgentFollowsRatios", unfollowed := true, recurses := true, apart := false }
def UrgentFollowsRatiosSaid : Prop := urgentFollowsRatiosRow.holds Try.pinned (OpenSpec.ofChange urgentFollowsRatiosSpec)

/-- ITS FALSE NEIGHBOUR: 'it returns false'. Refute it at one input. -/
def urgentFollowsRatiosWrong : ChangeSpec := { name := "urgentFollowsRatios", fn := fun _ => fun
  | [d] => { results := [.lit (.bool false)], args := [d] }
  | _ => none }
def UrgentFollowsRatiosWrongFalsely : Prop := urgentFollowsRatiosRow.holds Try.pinned (OpenSpec.ofChange urgentFollowsRatiosWrong)

/-- 'quietuslaw20.UrgentIsMonotone': WHATEVER THE INPUT: true; the input reads as it did. -/
def urgentIsMonotoneSpec : ChangeSpec := { name := "urgentIsMonotone", fn := fun _ => fun
  | [d1, d2] => { results := [.lit (.bool true)], args := [d1, d2] }
  | _ => none }
def urgentIsMonotoneRow : OpenClaim := { program := "ytpdaiflnibekaaa", sum := "9463d737b8e67b903eea7e64393ba15ccfcf00e0420b773b77d18ff6531ef26a", func := "quietus/quietuslaw20.UrgentIsMonotone", spec := "urgentIsMonotone", unfollowed := true, recurses := true, apart := false }
def UrgentIsMonotoneSaid : Prop := urgentIsMonotoneRow.holds Try.pinned (OpenSpec.ofChange urgentIsMonotoneSpec)

/-- ITS FALSE NEIGHBOUR: 'it returns false'. Refute it at one input. -/
def urgentIsMonotoneWrong : ChangeSpec := { name := "urgentIsMonotone", fn := fun _ => fun
  | [d1, d2] => { results := [.lit (.bool false)], args := [d1, d2] }
  | _ => none }
def UrgentIsMonotoneWrongFalsely : Prop := urgentIsMonotoneRow.holds Try.pinned (OpenSpec.ofChange urgentIsMonotoneWrong)

/- THE SECOND FORM. 'bulk': how many values and letters a reading holds, each counted each time it is reached (what is shared counts as often as it is met; a slice's spare places count too). A statement '..UptoSaid' is the law's where the arguments, and the package variables that the reading takes, are together of bulk at most 1048576: NARROWER than '..Said'. Prove '..Said' where nothing that the law and all that it calls make is longer than what came in: it says more and counts as full. Else prove '..UptoSaid'. A law counts once. -/
mutual
def uptoBulk {H : Type} : DataW H → Nat
  | .lit (.string bytes) => bytes.length + 1
  | .lit _ => 1
  | .nil => 1
  | .ptr d => uptoBulk d + 1
  | .slice elems spare => uptoBulkAll elems + uptoBulkAll spare + 1
  | .agg parts => uptoBulkAll parts + 1
  | .iface _ d => uptoBulk d + 1
  | .map entries => uptoBulkEntries entries + 1
  | .held _ => 1
def uptoBulkAll {H : Type} : List (DataW H) → Nat
  | [] => 0
  | d :: r => uptoBulk d + uptoBulkAll r
def uptoBulkEntries {H : Type} : List (Lit × DataW H) → Nat
  | [] => 0
  | x :: r => uptoBulkEntry x + uptoBulkEntries r
def uptoBulkEntry {H : Type} : Lit × DataW H → Nat
  | (.string bytes, d) => bytes.length + uptoBulk d + 1
  | (_, d) => uptoBulk d + 1
 end
def uptoSmall : (H : Type) → List (DataW H) → Bool := fun _ ds => decide (uptoBulkAll ds ≤ 1048576)
def OpenSpec.upto (s : _root_.Go.ChangeSpec) : _root_.Go.OpenSpec := { _root_.Go.OpenSpec.ofChange s with cond := some uptoSmall }

/-- 'quietuslaw20.UrgentFinishesAsSpecified', WHERE WHAT IT READS IS OF BULK AT MOST 1048576: true; the input reads as it did. -/
def urgentFinishesAsSpecifiedUptoRow : OpenClaim := { program := "ytpdaiflnibekaaa", sum := "9463d737b8e67b903eea7e64393ba15ccfcf00e0420b773b77d18ff6531ef26a", func := "quietus/quietuslaw20.UrgentFinishesAsSpecified", spec := "urgentFinishesAsSpecified", unfollowed := true, recurses := true, apart := false, narrowed := true }
def UrgentFinishesAsSpecifiedUptoSaid : Prop := urgentFinishesAsSpecifiedUptoRow.holds Try.pinned (OpenSpec.upto urgentFinishesAsSpecifiedSpec)

/-- 'quietuslaw20.UrgentOrdersAsSpecified', WHERE WHAT IT READS IS OF BULK AT MOST 1048576: true; the input reads as it did. -/
def urgentOrdersAsSpecifiedUptoRow : OpenClaim := { program := "ytpdaiflnibekaaa", sum := "9463d737b8e67b903eea7e64393ba15ccfcf00e0420b773b77d18ff6531ef26a", func := "quietus/quietuslaw20.UrgentOrdersAsSpecified", spec := "urgentOrdersAsSpecified", unfollowed := true, recurses := true, apart := false, narrowed := true }
def UrgentOrdersAsSpecifiedUptoSaid : Prop := urgentOrdersAsSpecifiedUptoRow.holds Try.pinned (OpenSpec.upto urgentOrdersAsSpecifiedSpec)

/-- 'quietuslaw20.UrgentAcceptsAsSpecified', WHERE WHAT IT READS IS OF BULK AT MOST 1048576: true; the input reads as it did. -/
def urgentAcceptsAsSpecifiedUptoRow : OpenClaim := { program := "ytpdaiflnibekaaa", sum := "9463d737b8e67b903eea7e64393ba15ccfcf00e0420b773b77d18ff6531ef26a", func := "quietus/quietuslaw20.UrgentAcceptsAsSpecified", spec := "urgentAcceptsAsSpecified", unfollowed := true, recurses := true, apart := false, narrowed := true }
def UrgentAcceptsAsSpecifiedUptoSaid : Prop := urgentAcceptsAsSpecifiedUptoRow.holds Try.pinned (OpenSpec.upto urgentAcceptsAsSpecifiedSpec)

/-- 'quietuslaw20.UrgentProves', WHERE WHAT IT READS IS OF BULK AT MOST 1048576: true; the input reads as it did. -/
def urgentProvesUptoRow : OpenClaim := { program := "ytpdaiflnibekaaa", sum := "9463d737b8e67b903eea7e64393ba15ccfcf00e0420b773b77d18ff6531ef26a", func := "quietus/quietuslaw20.UrgentProves", spec := "urgentProves", unfollowed := true, recurses := true, apart := false, narrowed := true }
def UrgentProvesUptoSaid : Prop := urgentProvesUptoRow.holds Try.pinned (OpenSpec.upto urgentProvesSpec)

/-- 'quietuslaw20.UrgentCrowds', WHERE WHAT IT READS IS OF BULK AT MOST 1048576: true; the input reads as it did. -/
def urgentCrowdsUptoRow : OpenClaim := { program := "ytpdaiflnibekaaa", sum := "9463d737b8e67b903eea7e64393ba15ccfcf00e0420b773b77d18ff6531ef26a", func := "quietus/quietuslaw20.UrgentCrowds", spec := "urgentCrowds", unfollowed := true, recurses := true, apart := false, narrowed := true }
def UrgentCrowdsUptoSaid : Prop := urgentCrowdsUptoRow.holds Try.pinned (OpenSpec.upto urgentCrowdsSpec)

/-- 'quietuslaw20.UrgentGivesUpTheLeast', WHERE WHAT IT READS IS OF BULK AT MOST 1048576: true; the input reads as it did. -/
def urgentGivesUpTheLeastUptoRow : OpenClaim := { program := "ytpdaiflnibekaaa", sum := "9463d737b8e67b903eea7e64393ba15ccfcf00e0420b773b77d18ff6531ef26a", func := "quietus/quietuslaw20.UrgentGivesUpTheLeast", spec := "urgentGivesUpTheLeast", unfollowed := true, recurses := true, apart := false, narrowed := true }
def UrgentGivesUpTheLeastUptoSaid : Prop := urgentGivesUpTheLeastUptoRow.holds Try.pinned (OpenSpec.upto urgentGivesUpTheLeastSpec)

/-- 'quietuslaw20.UrgentFollowsRatios', WHERE WHAT IT READS IS OF BULK AT MOST 1048576: true; the input reads as it did. -/
def urgentFollowsRatiosUptoRow : OpenClaim := { program := "ytpdaiflnibekaaa", sum := "9463d737b8e67b903eea7e64393ba15ccfcf00e0420b773b77d18ff6531ef26a", func := "quietus/quietuslaw20.UrgentFollowsRatios", spec := "urgentFollowsRatios", unfollowed := true, recurses := true, apart := false, narrowed := true }
def UrgentFollowsRatiosUptoSaid : Prop := urgentFollowsRatiosUptoRow.holds Try.pinned (OpenSpec.upto urgentFollowsRatiosSpec)

/-- 'quietuslaw20.UrgentIsMonotone', WHERE WHAT IT READS IS OF BULK AT MOST 1048576: true; the input reads as it did. -/
def urgentIsMonotoneUptoRow : OpenClaim := { program := "ytpdaiflnibekaaa", sum := "9463d737b8e67b903eea7e64393ba15ccfcf00e0420b773b77d18ff6531ef26a", func := "quietus/quietuslaw20.UrgentIsMonotone", spec := "urgentIsMonotone", unfollowed := true, recurses := true, apart := false, narrowed := true }
def UrgentIsMonotoneUptoSaid : Prop := urgentIsMonotoneUptoRow.holds Try.pinned (OpenSpec.upto urgentIsMonotoneSpec)

end Rows
end Go.Proofs.Ytpdaiflnibekaaa
