/-
  No cell of these rows narrows 'for every input' (looked for: loops, veiled, ifaces, maps, wideKeys, modest, calm, conditions, laid).
  DERIVED. THE GIVEN ROWS OF THIS SEAT. 5 by the template 'for every input the law returns true; each argument reads behind the call as it read before'; 0 by the template 'total and deterministic' (their statements: YtbojbamchaohpaaTotals.lean).
  GIVEN WITH THE SEED: the statements are not yours to turn. If you find one false, say at which input.
  Laid BY PROGRAM, IN A SANDBOX (cutbox-rows.mjs): the forced cells as the released guide's own fill.sh prints them over the translation 1858d70c88f55d4c… (all of the seat's roots in one cut). By AI agents, Wed Nov 11 2026. No macro, syntax, notation, axiom, sorry.
-/
import Derived.Test.YtbojbamchaohpaaChecked
import GoSem.Claim
import GoSem.ClaimJoined
import GoSem.ClaimMapViews
import Derived.JoinedTies
import Derived.KernelRfl
namespace Go.Proofs.Ytbojbamchaohpaa
/- THE CELL 'sum', in the pinned program and in every row, IS THE sha256 OF THE DUMP (.gsa) THAT YtbojbamchaohpaaProg.lean LOADS. Nothing in Lean hashes anything: it is a label: what it is worth is what the hold of that sum in a sandbox is worth. -/
noncomputable def Try.pinned : Pinned := { name := "ytbojbamchaohpaa", sum := "1858d70c88f55d4c30896a8a815323feb83d143c5fab5d106b855e79cf7d0157", checked := Try.checked }
namespace Rows
def none {H : Type} : Left H := { results := [], args := [] }

/-- 'quietuslaw16.FlowMeasuresAsSpecified': WHATEVER THE INPUT: true; the input reads as it did. -/
def flowMeasuresAsSpecifiedSpec : ChangeSpec := { name := "flowMeasuresAsSpecified", fn := fun _ => fun
  | [d1, d2, d3] => { results := [.lit (.bool true)], args := [d1, d2, d3] }
  | _ => none }
def flowMeasuresAsSpecifiedRow : OpenClaim := { program := "ytbojbamchaohpaa", sum := "1858d70c88f55d4c30896a8a815323feb83d143c5fab5d106b855e79cf7d0157", func := "quietus/quietuslaw16.FlowMeasuresAsSpecified", spec := "flowMeasuresAsSpecified", unfollowed := true, recurses := true, plainKeys := false, apart := false }
def FlowMeasuresAsSpecifiedSaid : Prop := flowMeasuresAsSpecifiedRow.holds Try.pinned (OpenSpec.ofChange flowMeasuresAsSpecifiedSpec)

/-- ITS FALSE NEIGHBOUR: 'it returns false'. Refute it at one input. -/
def flowMeasuresAsSpecifiedWrong : ChangeSpec := { name := "flowMeasuresAsSpecified", fn := fun _ => fun
  | [d1, d2, d3] => { results := [.lit (.bool false)], args := [d1, d2, d3] }
  | _ => none }
def FlowMeasuresAsSpecifiedWrongFalsely : Prop := flowMeasuresAsSpecifiedRow.holds Try.pinned (OpenSpec.ofChange flowMeasuresAsSpecifiedWrong)

/-- 'quietuslaw16.FlowIsMonotone': WHATEVER THE INPUT: true; the input reads as it did. -/
def flowIsMonotoneSpec : ChangeSpec := { name := "flowIsMonotone", fn := fun _ => fun
  | [d1, d2, d3, d4] => { results := [.lit (.bool true)], args := [d1, d2, d3, d4] }
  | _ => none }
def flowIsMonotoneRow : OpenClaim := { program := "ytbojbamchaohpaa", sum := "1858d70c88f55d4c30896a8a815323feb83d143c5fab5d106b855e79cf7d0157", func := "quietus/quietuslaw16.FlowIsMonotone", spec := "flowIsMonotone", unfollowed := true, recurses := true, plainKeys := false, apart := false }
def FlowIsMonotoneSaid : Prop := flowIsMonotoneRow.holds Try.pinned (OpenSpec.ofChange flowIsMonotoneSpec)

/-- ITS FALSE NEIGHBOUR: 'it returns false'. Refute it at one input. -/
def flowIsMonotoneWrong : ChangeSpec := { name := "flowIsMonotone", fn := fun _ => fun
  | [d1, d2, d3, d4] => { results := [.lit (.bool false)], args := [d1, d2, d3, d4] }
  | _ => none }
def FlowIsMonotoneWrongFalsely : Prop := flowIsMonotoneRow.holds Try.pinned (OpenSpec.ofChange flowIsMonotoneWrong)

/-- 'quietuslaw16.FlowSplits': WHATEVER THE INPUT: true; the input reads as it did. -/
def flowSplitsSpec : ChangeSpec := { name := "flowSplits", fn := fun _ => fun
  | [d1, d2] => { results := [.lit (.bool true)], args := [d1, d2] }
  | _ => none }
def flowSplitsRow : OpenClaim := { program := "ytbojbamchaohpaa", sum := "1858d70c88f55d4c30896a8a815323feb83d143c5fab5d106b855e79cf7d0157", func := "quietus/quietuslaw16.FlowSplits", spec := "flowSplits", unfollowed := true, recurses := true, plainKeys := false, apart := false }
def FlowSplitsSaid : Prop := flowSplitsRow.holds Try.pinned (OpenSpec.ofChange flowSplitsSpec)

/-- ITS FALSE NEIGHBOUR: 'it returns false'. Refute it at one input. -/
def flowSplitsWrong : ChangeSpec := { name := "flowSplits", fn := fun _ => fun
  | [d1, d2] => { results := [.lit (.bool false)], args := [d1, d2] }
  | _ => none }
def FlowSplitsWrongFalsely : Prop := flowSplitsRow.holds Try.pinned (OpenSpec.ofChange flowSplitsWrong)

/-- 'quietuslaw16.FlowIsBelowCuts': WHATEVER THE INPUT: true; the input reads as it did. -/
def flowIsBelowCutsSpec : ChangeSpec := { name := "flowIsBelowCuts", fn := fun _ => fun
  | [d1, d2, d3, d4] => { results := [.lit (.bool true)], args := [d1, d2, d3, d4] }
  | _ => none }
def flowIsBelowCutsRow : OpenClaim := { program := "ytbojbamchaohpaa", sum := "1858d70c88f55d4c30896a8a815323feb83d143c5fab5d106b855e79cf7d0157", func := "quietus/quietuslaw16.FlowIsBelowCuts", spec := "flowIsBelowCuts", unfollowed := true, recurses := true, plainKeys := false, apart := false }
def FlowIsBelowCutsSaid : Prop := flowIsBelowCutsRow.holds Try.pinned (OpenSpec.ofChange flowIsBelowCutsSpec)

/-- ITS FALSE NEIGHBOUR: 'it returns false'. Refute it at one input. -/
def flowIsBelowCutsWrong : ChangeSpec := { name := "flowIsBelowCuts", fn := fun _ => fun
  | [d1, d2, d3, d4] => { results := [.lit (.bool false)], args := [d1, d2, d3, d4] }
  | _ => none }
def FlowIsBelowCutsWrongFalsely : Prop := flowIsBelowCutsRow.holds Try.pinned (OpenSpec.ofChange flowIsBelowCutsWrong)

/-- 'quietuslaw16.FlowIsCheapest': WHATEVER THE INPUT: true; the input reads as it did. -/
def flowIsCheapestSpec : ChangeSpec := { name := "flowIsCheapest", fn := fun _ => fun
  | [d1, d2, d3, d4] => { results := [.lit (.bool true)], args := [d1, d2, d3, d4] }
  | _ => none }
def flowIsCheapestRow : OpenClaim := { program := "ytbojbamchaohpaa", sum := "1858d70c88f55d4c30896a8a815323feb83d143c5fab5d106b855e79cf7d0157", func := "quietus/quietuslaw16.FlowIsCheapest", spec := "flowIsCheapest", unfollowed := true, recurses := true, plainKeys := false, apart := false }
def FlowIsCheapestSaid : Prop := flowIsCheapestRow.holds Try.pinned (OpenSpec.ofChange flowIsCheapestSpec)

/-- ITS FALSE NEIGHBOUR: 'it returns false'. Refute it at one input. -/
def flowIsCheapestWrong : ChangeSpec := { name := "flowIsCheapest", fn := fun _ => fun
  | [d1, d2, d3, d4] => { results := [.lit (.bool false)], args := [d1, d2, d3, d4] }
  | _ => none }
def FlowIsCheapestWrongFalsely : Prop := flowIsCheapestRow.holds Try.pinned (OpenSpec.ofChange flowIsCheapestWrong)

/- THE SECOND FORM. 'bulk': how many values and letters a reading holds, each counted each time it is reached (what is shared counts as often as it is met; a slice's spare places count too). A statement '..UptoSaid' is the law's where the arguments, and the package variables that the reading takes, are together of bulk at most 1048576: NARROWER than '..Said'. Prove '..Said' where nothing that the law and all that it calls make is longer than what came in: it says more and counts as full. Else prove '..UptoSaid'. A law counts once. -/
mutual
def uptoBulk {H : Type} : DataW H → Nat
  | .lit (.string bytes) => bytes.length + 1
  | .lit _ => 1
  | .nil => 1
  | .ptr d => uptoBulk d + 1
  | .slice elems spare => uptoBulkAll elems + uptoBulkAll spare + 1
  | .agg parts => uptoBulkAll parts + 1
  | .iface _ d => uptoBulk d + 1
  | .map entries => uptoBulkEntries entries + 1
  | .held _ => 1
def uptoBulkAll {H : Type} : List (DataW H) → Nat
  | [] => 0
  | d :: r => uptoBulk d + uptoBulkAll r
def uptoBulkEntries {H : Type} : List (Lit × DataW H) → Nat
  | [] => 0
  | x :: r => uptoBulkEntry x + uptoBulkEntries r
def uptoBulkEntry {H : Type} : Lit × DataW H → Nat
  | (.string bytes, d) => bytes.length + uptoBulk d + 1
  | (_, d) => uptoBulk d + 1
 end
def uptoSmall : (H : Type) → List (DataW H) → Bool := fun _ ds => decide (uptoBulkAll ds ≤ 1048576)
def OpenSpec.upto (s : _root_.Go.ChangeSpec) : _root_.Go.OpenSpec := { _root_.Go.OpenSpec.ofChange s with cond := some uptoSmall }

/-- 'quietuslaw16.FlowMeasuresAsSpecified', WHERE WHAT IT READS IS OF BULK AT MOST 1048576: true; the input reads as it did. -/
def flowMeasuresAsSpecifiedUptoRow : OpenClaim := { program := "ytbojbamchaohpaa", sum := "1858d70c88f55d4c30896a8a815323feb83d143c5fab5d106b855e79cf7d0157", func := "quietus/quietuslaw16.FlowMeasuresAsSpecified", spec := "flowMeasuresAsSpecified", unfollowed := true, recurses := true, plainKeys := false, apart := false, narrowed := true }
def FlowMeasuresAsSpecifiedUptoSaid : Prop := flowMeasuresAsSpecifiedUptoRow.holds Try.pinned (OpenSpec.upto flowMeasuresAsSpecifiedSpec)

/-- 'quietuslaw16.FlowIsMonotone', WHERE WHAT IT READS IS OF BULK AT MOST 1048576: true; the input reads as it did. -/
def flowIsMonotoneUptoRow : OpenClaim := { program := "ytbojbamchaohpaa", sum := "1858d70c88f55d4c30896a8a815323feb83d143c5fab5d106b855e79cf7d0157", func := "quietus/quietuslaw16.FlowIsMonotone", spec := "flowIsMonotone", unfollowed := true, recurses := true, plainKeys := false, apart := false, narrowed := true }
def FlowIsMonotoneUptoSaid : Prop := flowIsMonotoneUptoRow.holds Try.pinned (OpenSpec.upto flowIsMonotoneSpec)

/-- 'quietuslaw16.FlowSplits', WHERE WHAT IT READS IS OF BULK AT MOST 1048576: true; the input reads as it did. -/
def flowSplitsUptoRow : OpenClaim := { program := "ytbojbamchaohpaa", sum := "1858d70c88f55d4c30896a8a815323feb83d143c5fab5d106b855e79cf7d0157", func := "quietus/quietuslaw16.FlowSplits", spec := "flowSplits", unfollowed := true, recurses := true, plainKeys := false, apart := false, narrowed := true }
def FlowSplitsUptoSaid : Prop := flowSplitsUptoRow.holds Try.pinned (OpenSpec.upto flowSplitsSpec)

/-- 'quietuslaw16.FlowIsBelowCuts', WHERE WHAT IT READS IS OF BULK AT MOST 1048576: true; the input reads as it did. -/
def flowIsBelowCutsUptoRow : OpenClaim := { program := "ytbojbamchaohpaa", sum := "1858d70c88f55d4c30896a8a815323feb83d143c5fab5d106b855e79cf7d0157", func := "quietus/quietuslaw16.FlowIsBelowCuts", spec := "flowIsBelowCuts", unfollowed := true, recurses := true, plainKeys := false, apart := false, narrowed := true }
def FlowIsBelowCutsUptoSaid : Prop := flowIsBelowCutsUptoRow.holds Try.pinned (OpenSpec.upto flowIsBelowCutsSpec)

/-- 'quietuslaw16.FlowIsCheapest', WHERE WHAT IT READS IS OF BULK AT MOST 1048576: true; the input reads as it did. -/
def flowIsCheapestUptoRow : OpenClaim := { program := "ytbojbamchaohpaa", sum := "1858d70c88f55d4c30896a8a815323feb83d143c5fab5d106b855e79cf7d0157", func := "quietus/quietuslaw16.FlowIsCheapest", spec := "flowIsCheapest", unfollowed := true, recurses := true, plainKeys := false, apart := false, narrowed := true }
def FlowIsCheapestUptoSaid : Prop := flowIsCheapestUptoRow.holds Try.pinned (OpenSpec.upto flowIsCheapestSpec)

end Rows
end Go.Proofs.Ytbojbamchaohpaa
