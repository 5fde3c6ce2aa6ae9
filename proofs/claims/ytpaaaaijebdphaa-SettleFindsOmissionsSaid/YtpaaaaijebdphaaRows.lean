/-
  No cell of these rows narrows 'for every input' (looked for: loops, veiled, ifaces, maps, wideKeys, modest, calm, conditions, laid).
  DERIVED. THE GIVEN ROWS OF THIS SEAT. 7 by the template 'for every input the law returns true; each argument reads behind the call as it read before'; 0 by the template 'total and deterministic' (their statements: YtpaaaaijebdphaaTotals.lean).
  GIVEN WITH THE SEED: the statements are not yours to turn. If you find one false, say at which input.
  Laid BY PROGRAM, IN A SANDBOX (cutbox-rows.mjs): the forced cells as the released guide's own fill.sh prints them over the translation 7748bf92f107fe74… (all of the seat's roots in one cut). By AI agents, Wed Nov 11 2026. No macro, syntax, notation, axiom, sorry.
-/
import Derived.Test.YtpaaaaijebdphaaChecked
import GoSem.Claim
import GoSem.ClaimJoined
import GoSem.ClaimMapViews
import Derived.JoinedTies
import Derived.KernelRfl
namespace Go.Proofs.Ytpaaaaijebdphaa
/- THE CELL 'sum', in the pinned program and in every row, IS THE sha256 OF THE DUMP (.gsa) THAT YtpaaaaijebdphaaProg.lean LOADS. Nothing in Lean hashes anything: it is a label: what it is worth is what the hold of that sum in a sandbox is worth. -/
noncomputable def Try.pinned : Pinned := { name := "ytpaaaaijebdphaa", sum := "7748bf92f107fe74a90fe6f50d4e8f721ea2683f8f05ee880a5eb9ef7ab17150", checked := Try.checked }
namespace Rows
def none {H : Type} : Left H := { results := [], args := [] }

/-- 'quietuslaw50.SettleDisputesAsSpecified': WHATEVER THE INPUT: true; the input reads as it did. -/
def settleDisputesAsSpecifiedSpec : ChangeSpec := { name := "settleDisputesAsSpecified", fn := fun _ => fun
  | [d1, d2] => { results := [.lit (.bool true)], args := [d1, d2] }
  | _ => none }
def settleDisputesAsSpecifiedRow : OpenClaim := { program := "ytpaaaaijebdphaa", sum := "7748bf92f107fe74a90fe6f50d4e8f721ea2683f8f05ee880a5eb9ef7ab17150", func := "quietus/quietuslaw50.SettleDisputesAsSpecified", spec := "settleDisputesAsSpecified", unfollowed := true, recurses := true, plainKeys := false, apart := false }
def SettleDisputesAsSpecifiedSaid : Prop := settleDisputesAsSpecifiedRow.holds Try.pinned (OpenSpec.ofChange settleDisputesAsSpecifiedSpec)

/-- ITS FALSE NEIGHBOUR: 'it returns false'. Refute it at one input. -/
def settleDisputesAsSpecifiedWrong : ChangeSpec := { name := "settleDisputesAsSpecified", fn := fun _ => fun
  | [d1, d2] => { results := [.lit (.bool false)], args := [d1, d2] }
  | _ => none }
def SettleDisputesAsSpecifiedWrongFalsely : Prop := settleDisputesAsSpecifiedRow.holds Try.pinned (OpenSpec.ofChange settleDisputesAsSpecifiedWrong)

/-- 'quietuslaw50.SettlePaysAsSpecified': WHATEVER THE INPUT: true; the input reads as it did. -/
def settlePaysAsSpecifiedSpec : ChangeSpec := { name := "settlePaysAsSpecified", fn := fun _ => fun
  | [d1, d2] => { results := [.lit (.bool true)], args := [d1, d2] }
  | _ => none }
def settlePaysAsSpecifiedRow : OpenClaim := { program := "ytpaaaaijebdphaa", sum := "7748bf92f107fe74a90fe6f50d4e8f721ea2683f8f05ee880a5eb9ef7ab17150", func := "quietus/quietuslaw50.SettlePaysAsSpecified", spec := "settlePaysAsSpecified", unfollowed := true, recurses := true, plainKeys := false, apart := false }
def SettlePaysAsSpecifiedSaid : Prop := settlePaysAsSpecifiedRow.holds Try.pinned (OpenSpec.ofChange settlePaysAsSpecifiedSpec)

/-- ITS FALSE NEIGHBOUR: 'it returns false'. Refute it at one input. -/
def settlePaysAsSpecifiedWrong : ChangeSpec := { name := "settlePaysAsSpecified", fn := fun _ => fun
  | [d1, d2] => { results := [.lit (.bool false)], args := [d1, d2] }
  | _ => none }
def SettlePaysAsSpecifiedWrongFalsely : Prop := settlePaysAsSpecifiedRow.holds Try.pinned (OpenSpec.ofChange settlePaysAsSpecifiedWrong)

/-- 'quietuslaw50.SettleClearsAsSpecified': WHATEVER THE INPUT: true; the input reads as it did. -/
def settleClearsAsSpecifiedSpec : ChangeSpec := { name := "settleClearsAsSpecified", fn := fun _ => fun
  | [d1, d2, d3] => { results := [.lit (.bool true)], args := [d1, d2, d3] }
  | _ => none }
def settleClearsAsSpecifiedRow : OpenClaim := { program := "ytpaaaaijebdphaa", sum := "7748bf92f107fe74a90fe6f50d4e8f721ea2683f8f05ee880a5eb9ef7ab17150", func := "quietus/quietuslaw50.SettleClearsAsSpecified", spec := "settleClearsAsSpecified", unfollowed := true, recurses := true, plainKeys := false, apart := false }
def SettleClearsAsSpecifiedSaid : Prop := settleClearsAsSpecifiedRow.holds Try.pinned (OpenSpec.ofChange settleClearsAsSpecifiedSpec)

/-- ITS FALSE NEIGHBOUR: 'it returns false'. Refute it at one input. -/
def settleClearsAsSpecifiedWrong : ChangeSpec := { name := "settleClearsAsSpecified", fn := fun _ => fun
  | [d1, d2, d3] => { results := [.lit (.bool false)], args := [d1, d2, d3] }
  | _ => none }
def SettleClearsAsSpecifiedWrongFalsely : Prop := settleClearsAsSpecifiedRow.holds Try.pinned (OpenSpec.ofChange settleClearsAsSpecifiedWrong)

/-- 'quietuslaw50.SettlePaysLeast': WHATEVER THE INPUT: true; the input reads as it did. -/
def settlePaysLeastSpec : ChangeSpec := { name := "settlePaysLeast", fn := fun _ => fun
  | [d1, d2] => { results := [.lit (.bool true)], args := [d1, d2] }
  | _ => none }
def settlePaysLeastRow : OpenClaim := { program := "ytpaaaaijebdphaa", sum := "7748bf92f107fe74a90fe6f50d4e8f721ea2683f8f05ee880a5eb9ef7ab17150", func := "quietus/quietuslaw50.SettlePaysLeast", spec := "settlePaysLeast", unfollowed := true, recurses := true, plainKeys := false, apart := false }
def SettlePaysLeastSaid : Prop := settlePaysLeastRow.holds Try.pinned (OpenSpec.ofChange settlePaysLeastSpec)

/-- ITS FALSE NEIGHBOUR: 'it returns false'. Refute it at one input. -/
def settlePaysLeastWrong : ChangeSpec := { name := "settlePaysLeast", fn := fun _ => fun
  | [d1, d2] => { results := [.lit (.bool false)], args := [d1, d2] }
  | _ => none }
def SettlePaysLeastWrongFalsely : Prop := settlePaysLeastRow.holds Try.pinned (OpenSpec.ofChange settlePaysLeastWrong)

/-- 'quietuslaw50.SettleDisputesBothWays': WHATEVER THE INPUT: true; the input reads as it did. -/
def settleDisputesBothWaysSpec : ChangeSpec := { name := "settleDisputesBothWays", fn := fun _ => fun
  | [d1, d2] => { results := [.lit (.bool true)], args := [d1, d2] }
  | _ => none }
def settleDisputesBothWaysRow : OpenClaim := { program := "ytpaaaaijebdphaa", sum := "7748bf92f107fe74a90fe6f50d4e8f721ea2683f8f05ee880a5eb9ef7ab17150", func := "quietus/quietuslaw50.SettleDisputesBothWays", spec := "settleDisputesBothWays", unfollowed := true, recurses := true, plainKeys := false, apart := false }
def SettleDisputesBothWaysSaid : Prop := settleDisputesBothWaysRow.holds Try.pinned (OpenSpec.ofChange settleDisputesBothWaysSpec)

/-- ITS FALSE NEIGHBOUR: 'it returns false'. Refute it at one input. -/
def settleDisputesBothWaysWrong : ChangeSpec := { name := "settleDisputesBothWays", fn := fun _ => fun
  | [d1, d2] => { results := [.lit (.bool false)], args := [d1, d2] }
  | _ => none }
def SettleDisputesBothWaysWrongFalsely : Prop := settleDisputesBothWaysRow.holds Try.pinned (OpenSpec.ofChange settleDisputesBothWaysWrong)

/-- 'quietuslaw50.SettleClearsBooks': WHATEVER THE INPUT: true; the input reads as it did. -/
def settleClearsBooksSpec : ChangeSpec := { name := "settleClearsBooks", fn := fun _ => fun
  | [d1, d2] => { results := [.lit (.bool true)], args := [d1, d2] }
  | _ => none }
def settleClearsBooksRow : OpenClaim := { program := "ytpaaaaijebdphaa", sum := "7748bf92f107fe74a90fe6f50d4e8f721ea2683f8f05ee880a5eb9ef7ab17150", func := "quietus/quietuslaw50.SettleClearsBooks", spec := "settleClearsBooks", unfollowed := true, recurses := true, plainKeys := false, apart := false }
def SettleClearsBooksSaid : Prop := settleClearsBooksRow.holds Try.pinned (OpenSpec.ofChange settleClearsBooksSpec)

/-- ITS FALSE NEIGHBOUR: 'it returns false'. Refute it at one input. -/
def settleClearsBooksWrong : ChangeSpec := { name := "settleClearsBooks", fn := fun _ => fun
  | [d1, d2] => { results := [.lit (.bool false)], args := [d1, d2] }
  | _ => none }
def SettleClearsBooksWrongFalsely : Prop := settleClearsBooksRow.holds Try.pinned (OpenSpec.ofChange settleClearsBooksWrong)

/-- 'quietuslaw50.SettleFindsOmissions': WHATEVER THE INPUT: true; the input reads as it did. -/
def settleFindsOmissionsSpec : ChangeSpec := { name := "settleFindsOmissions", fn := fun _ => fun
  | [d1, d2, d3] => { results := [.lit (.bool true)], args := [d1, d2, d3] }
  | _ => none }
def settleFindsOmissionsRow : OpenClaim := { program := "ytpaaaaijebdphaa", sum := "7748bf92f107fe74a90fe6f50d4e8f721ea2683f8f05ee880a5eb9ef7ab17150", func := "quietus/quietuslaw50.SettleFindsOmissions", spec := "settleFindsOmissions", unfollowed := true, recurses := true, plainKeys := false, apart := false }
def SettleFindsOmissionsSaid : Prop := settleFindsOmissionsRow.holds Try.pinned (OpenSpec.ofChange settleFindsOmissionsSpec)

/-- ITS FALSE NEIGHBOUR: 'it returns false'. Refute it at one input. -/
def settleFindsOmissionsWrong : ChangeSpec := { name := "settleFindsOmissions", fn := fun _ => fun
  | [d1, d2, d3] => { results := [.lit (.bool false)], args := [d1, d2, d3] }
  | _ => none }
def SettleFindsOmissionsWrongFalsely : Prop := settleFindsOmissionsRow.holds Try.pinned (OpenSpec.ofChange settleFindsOmissionsWrong)

/- THE SECOND FORM. 'bulk': how many values and letters a reading holds, each counted each time it is reached (what is shared counts as often as it is met; a slice's spare places count too). A statement '..UptoSaid' is the law's where the arguments, and the package variables that the reading takes, are together of bulk at most 1048576: NARROWER than '..Said'. Prove '..Said' where nothing that the law and all that it calls make is longer than what came in: it says more and counts as full. Else prove '..UptoSaid'. A law counts once. -/
mutual
def uptoBulk {H : Type} : DataW H → Nat
  | .lit (.string bytes) => bytes.length + 1
  | .lit _ => 1
  | .nil => 1
  | .ptr d => uptoBulk d + 1
  | .slice elems spare => uptoBulkAll elems + uptoBulkAll spare + 1
  | .agg parts => uptoBulkAll parts + 1
  | .iface _ d => uptoBulk d + 1
  | .map entries => uptoBulkEntries entries + 1
  | .held _ => 1
def uptoBulkAll {H : Type} : List (DataW H) → Nat
  | [] => 0
  | d :: r => uptoBulk d + uptoBulkAll r
def uptoBulkEntries {H : Type} : List (Lit × DataW H) → Nat
  | [] => 0
  | x :: r => uptoBulkEntry x + uptoBulkEntries r
def uptoBulkEntry {H : Type} : Lit × DataW H → Nat
  | (.string bytes, d) => bytes.length + uptoBulk d + 1
  | (_, d) => uptoBulk d + 1
 end
def uptoSmall : (H : Type) → List (DataW H) → Bool := fun _ ds => decide (uptoBulkAll ds ≤ 1048576)
def OpenSpec.upto (s : _root_.Go.ChangeSpec) : _root_.Go.OpenSpec := { _root_.Go.OpenSpec.ofChange s with cond := some uptoSmall }

/-- 'quietuslaw50.SettleDisputesAsSpecified', WHERE WHAT IT READS IS OF BULK AT MOST 1048576: true; the input reads as it did. -/
def settleDisputesAsSpecifiedUptoRow : OpenClaim := { program := "ytpaaaaijebdphaa", sum := "7748bf92f107fe74a90fe6f50d4e8f721ea2683f8f05ee880a5eb9ef7ab17150", func := "quietus/quietuslaw50.SettleDisputesAsSpecified", spec := "settleDisputesAsSpecified", unfollowed := true, recurses := true, plainKeys := false, apart := false, narrowed := true }
def SettleDisputesAsSpecifiedUptoSaid : Prop := settleDisputesAsSpecifiedUptoRow.holds Try.pinned (OpenSpec.upto settleDisputesAsSpecifiedSpec)

/-- 'quietuslaw50.SettlePaysAsSpecified', WHERE WHAT IT READS IS OF BULK AT MOST 1048576: true; the input reads as it did. -/
def settlePaysAsSpecifiedUptoRow : OpenClaim := { program := "ytpaaaaijebdphaa", sum := "7748bf92f107fe74a90fe6f50d4e8f721ea2683f8f05ee880a5eb9ef7ab17150", func := "quietus/quietuslaw50.SettlePaysAsSpecified", spec := "settlePaysAsSpecified", unfollowed := true, recurses := true, plainKeys := false, apart := false, narrowed := true }
def SettlePaysAsSpecifiedUptoSaid : Prop := settlePaysAsSpecifiedUptoRow.holds Try.pinned (OpenSpec.upto settlePaysAsSpecifiedSpec)

/-- 'quietuslaw50.SettleClearsAsSpecified', WHERE WHAT IT READS IS OF BULK AT MOST 1048576: true; the input reads as it did. -/
def settleClearsAsSpecifiedUptoRow : OpenClaim := { program := "ytpaaaaijebdphaa", sum := "7748bf92f107fe74a90fe6f50d4e8f721ea2683f8f05ee880a5eb9ef7ab17150", func := "quietus/quietuslaw50.SettleClearsAsSpecified", spec := "settleClearsAsSpecified", unfollowed := true, recurses := true, plainKeys := false, apart := false, narrowed := true }
def SettleClearsAsSpecifiedUptoSaid : Prop := settleClearsAsSpecifiedUptoRow.holds Try.pinned (OpenSpec.upto settleClearsAsSpecifiedSpec)

/-- 'quietuslaw50.SettlePaysLeast', WHERE WHAT IT READS IS OF BULK AT MOST 1048576: true; the input reads as it did. -/
def settlePaysLeastUptoRow : OpenClaim := { program := "ytpaaaaijebdphaa", sum := "7748bf92f107fe74a90fe6f50d4e8f721ea2683f8f05ee880a5eb9ef7ab17150", func := "quietus/quietuslaw50.SettlePaysLeast", spec := "settlePaysLeast", unfollowed := true, recurses := true, plainKeys := false, apart := false, narrowed := true }
def SettlePaysLeastUptoSaid : Prop := settlePaysLeastUptoRow.holds Try.pinned (OpenSpec.upto settlePaysLeastSpec)

/-- 'quietuslaw50.SettleDisputesBothWays', WHERE WHAT IT READS IS OF BULK AT MOST 1048576: true; the input reads as it did. -/
def settleDisputesBothWaysUptoRow : OpenClaim := { program := "ytpaaaaijebdphaa", sum := "7748bf92f107fe74a90fe6f50d4e8f721ea2683f8f05ee880a5eb9ef7ab17150", func := "quietus/quietuslaw50.SettleDisputesBothWays", spec := "settleDisputesBothWays", unfollowed := true, recurses := true, plainKeys := false, apart := false, narrowed := true }
def SettleDisputesBothWaysUptoSaid : Prop := settleDisputesBothWaysUptoRow.holds Try.pinned (OpenSpec.upto settleDisputesBothWaysSpec)

/-- 'quietuslaw50.SettleClearsBooks', WHERE WHAT IT READS IS OF BULK AT MOST 1048576: true; the input reads as it did. -/
def settleClearsBooksUptoRow : OpenClaim := { program := "ytpaaaaijebdphaa", sum := "7748bf92f107fe74a90fe6f50d4e8f721ea2683f8f05ee880a5eb9ef7ab17150", func := "quietus/quietuslaw50.SettleClearsBooks", spec := "settleClearsBooks", unfollowed := true, recurses := true, plainKeys := false, apart := false, narrowed := true }
def SettleClearsBooksUptoSaid : Prop := settleClearsBooksUptoRow.holds Try.pinned (OpenSpec.upto settleClearsBooksSpec)

/-- 'quietuslaw50.SettleFindsOmissions', WHERE WHAT IT READS IS OF BULK AT MOST 1048576: true; the input reads as it did. -/
def settleFindsOmissionsUptoRow : OpenClaim := { program := "ytpaaaaijebdphaa", sum := "7748bf92f107fe74a90fe6f50d4e8f721ea2683f8f05ee880a5eb9ef7ab17150", func := "quietus/quietuslaw50.SettleFindsOmissions", spec := "settleFindsOmissions", unfollowed := true, recurses := true, plainKeys := false, apart := false, narrowed := true }
def SettleFindsOmissionsUptoSaid : Prop := settleFindsOmissionsUptoRow.holds Try.pinned (OpenSpec.upto settleFindsOmissionsSpec)

end Rows
end Go.Proofs.Ytpaaaaijebdphaa
