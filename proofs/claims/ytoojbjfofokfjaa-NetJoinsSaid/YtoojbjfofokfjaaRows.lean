/-
  No cell of these rows narrows 'for every input' (looked for: loops, veiled, ifaces, maps, wideKeys, modest, calm, conditions, laid).
  DERIVED. THE GIVEN ROWS OF THIS SEAT. 6 by the template 'for every input the law returns true; each argument reads behind the call as it read before'; 0 by the template 'total and deterministic' (their statements: YtoojbjfofokfjaaTotals.lean).
  GIVEN WITH THE SEED: the statements are not yours to turn. If you find one false, say at which input.
  Laid BY PROGRAM, IN A SANDBOX (cutbox-rows.mjs): the forced cells as the released guide's own fill.sh prints them over the translation 0a2b5e52dc56d3a3… (all of the seat's roots in one cut). By AI agents, Wed Nov 11 2026. No macro, syntax, notation, axiom, sorry.
-/
import Derived.Test.YtoojbjfofokfjaaChecked
import GoSem.Claim
import GoSem.ClaimJoined
import GoSem.ClaimMapViews
import Derived.JoinedTies
import Derived.KernelRfl
namespace Go.Proofs.Ytoojbjfofokfjaa
/- THE CELL 'sum', in the pinned program and in every row, IS THE sha256 OF THE DUMP (.gsa) THAT YtoojbjfofokfjaaProg.lean LOADS. Nothing in Lean hashes anything: it is a label: what it is worth is what the hold of that sum in a sandbox is worth. -/
noncomputable def Try.pinned : Pinned := { name := "ytoojbjfofokfjaa", sum := "0a2b5e52dc56d3a3de0dd8feedce08ffd4c8e5ab67f576058e9684946d33ecdc", checked := Try.checked }
namespace Rows
def none {H : Type} : Left H := { results := [], args := [] }

/-- 'quietuslaw15.NetChecksAsSpecified': WHATEVER THE INPUT: true; the input reads as it did. -/
def netChecksAsSpecifiedSpec : ChangeSpec := { name := "netChecksAsSpecified", fn := fun _ => fun
  | [d1, d2, d3] => { results := [.lit (.bool true)], args := [d1, d2, d3] }
  | _ => none }
def netChecksAsSpecifiedRow : OpenClaim := { program := "ytoojbjfofokfjaa", sum := "0a2b5e52dc56d3a3de0dd8feedce08ffd4c8e5ab67f576058e9684946d33ecdc", func := "quietus/quietuslaw15.NetChecksAsSpecified", spec := "netChecksAsSpecified", unfollowed := true, recurses := true, plainKeys := false, apart := false }
def NetChecksAsSpecifiedSaid : Prop := netChecksAsSpecifiedRow.holds Try.pinned (OpenSpec.ofChange netChecksAsSpecifiedSpec)

/-- ITS FALSE NEIGHBOUR: 'it returns false'. Refute it at one input. -/
def netChecksAsSpecifiedWrong : ChangeSpec := { name := "netChecksAsSpecified", fn := fun _ => fun
  | [d1, d2, d3] => { results := [.lit (.bool false)], args := [d1, d2, d3] }
  | _ => none }
def NetChecksAsSpecifiedWrongFalsely : Prop := netChecksAsSpecifiedRow.holds Try.pinned (OpenSpec.ofChange netChecksAsSpecifiedWrong)

/-- 'quietuslaw15.NetConserves': WHATEVER THE INPUT: true; the input reads as it did. -/
def netConservesSpec : ChangeSpec := { name := "netConserves", fn := fun _ => fun
  | [d1, d2, d3, d4] => { results := [.lit (.bool true)], args := [d1, d2, d3, d4] }
  | _ => none }
def netConservesRow : OpenClaim := { program := "ytoojbjfofokfjaa", sum := "0a2b5e52dc56d3a3de0dd8feedce08ffd4c8e5ab67f576058e9684946d33ecdc", func := "quietus/quietuslaw15.NetConserves", spec := "netConserves", unfollowed := true, recurses := true, plainKeys := false, apart := false }
def NetConservesSaid : Prop := netConservesRow.holds Try.pinned (OpenSpec.ofChange netConservesSpec)

/-- ITS FALSE NEIGHBOUR: 'it returns false'. Refute it at one input. -/
def netConservesWrong : ChangeSpec := { name := "netConserves", fn := fun _ => fun
  | [d1, d2, d3, d4] => { results := [.lit (.bool false)], args := [d1, d2, d3, d4] }
  | _ => none }
def NetConservesWrongFalsely : Prop := netConservesRow.holds Try.pinned (OpenSpec.ofChange netConservesWrong)

/-- 'quietuslaw15.NetCuts': WHATEVER THE INPUT: true; the input reads as it did. -/
def netCutsSpec : ChangeSpec := { name := "netCuts", fn := fun _ => fun
  | [d1, d2, d3, d4] => { results := [.lit (.bool true)], args := [d1, d2, d3, d4] }
  | _ => none }
def netCutsRow : OpenClaim := { program := "ytoojbjfofokfjaa", sum := "0a2b5e52dc56d3a3de0dd8feedce08ffd4c8e5ab67f576058e9684946d33ecdc", func := "quietus/quietuslaw15.NetCuts", spec := "netCuts", unfollowed := true, recurses := true, plainKeys := false, apart := false }
def NetCutsSaid : Prop := netCutsRow.holds Try.pinned (OpenSpec.ofChange netCutsSpec)

/-- ITS FALSE NEIGHBOUR: 'it returns false'. Refute it at one input. -/
def netCutsWrong : ChangeSpec := { name := "netCuts", fn := fun _ => fun
  | [d1, d2, d3, d4] => { results := [.lit (.bool false)], args := [d1, d2, d3, d4] }
  | _ => none }
def NetCutsWrongFalsely : Prop := netCutsRow.holds Try.pinned (OpenSpec.ofChange netCutsWrong)

/-- 'quietuslaw15.NetRelaxes': WHATEVER THE INPUT: true; the input reads as it did. -/
def netRelaxesSpec : ChangeSpec := { name := "netRelaxes", fn := fun _ => fun
  | [d1, d2, d3, d4] => { results := [.lit (.bool true)], args := [d1, d2, d3, d4] }
  | _ => none }
def netRelaxesRow : OpenClaim := { program := "ytoojbjfofokfjaa", sum := "0a2b5e52dc56d3a3de0dd8feedce08ffd4c8e5ab67f576058e9684946d33ecdc", func := "quietus/quietuslaw15.NetRelaxes", spec := "netRelaxes", unfollowed := true, recurses := true, plainKeys := false, apart := false }
def NetRelaxesSaid : Prop := netRelaxesRow.holds Try.pinned (OpenSpec.ofChange netRelaxesSpec)

/-- ITS FALSE NEIGHBOUR: 'it returns false'. Refute it at one input. -/
def netRelaxesWrong : ChangeSpec := { name := "netRelaxes", fn := fun _ => fun
  | [d1, d2, d3, d4] => { results := [.lit (.bool false)], args := [d1, d2, d3, d4] }
  | _ => none }
def NetRelaxesWrongFalsely : Prop := netRelaxesRow.holds Try.pinned (OpenSpec.ofChange netRelaxesWrong)

/-- 'quietuslaw15.NetJoins': WHATEVER THE INPUT: true; the input reads as it did. -/
def netJoinsSpec : ChangeSpec := { name := "netJoins", fn := fun _ => fun
  | [d1, d2, d3, d4] => { results := [.lit (.bool true)], args := [d1, d2, d3, d4] }
  | _ => none }
def netJoinsRow : OpenClaim := { program := "ytoojbjfofokfjaa", sum := "0a2b5e52dc56d3a3de0dd8feedce08ffd4c8e5ab67f576058e9684946d33ecdc", func := "quietus/quietuslaw15.NetJoins", spec := "netJoins", unfollowed := true, recurses := true, plainKeys := false, apart := false }
def NetJoinsSaid : Prop := netJoinsRow.holds Try.pinned (OpenSpec.ofChange netJoinsSpec)

/-- ITS FALSE NEIGHBOUR: 'it returns false'. Refute it at one input. -/
def netJoinsWrong : ChangeSpec := { name := "netJoins", fn := fun _ => fun
  | [d1, d2, d3, d4] => { results := [.lit (.bool false)], args := [d1, d2, d3, d4] }
  | _ => none }
def NetJoinsWrongFalsely : Prop := netJoinsRow.holds Try.pinned (OpenSpec.ofChange netJoinsWrong)

/-- 'quietuslaw15.NetServesAsSpecified': WHATEVER THE INPUT: true; the input reads as it did. -/
def netServesAsSpecifiedSpec : ChangeSpec := { name := "netServesAsSpecified", fn := fun _ => fun
  | [d1, d2, d3, d4] => { results := [.lit (.bool true)], args := [d1, d2, d3, d4] }
  | _ => none }
def netServesAsSpecifiedRow : OpenClaim := { program := "ytoojbjfofokfjaa", sum := "0a2b5e52dc56d3a3de0dd8feedce08ffd4c8e5ab67f576058e9684946d33ecdc", func := "quietus/quietuslaw15.NetServesAsSpecified", spec := "netServesAsSpecified", unfollowed := true, recurses := true, plainKeys := false, apart := false }
def NetServesAsSpecifiedSaid : Prop := netServesAsSpecifiedRow.holds Try.pinned (OpenSpec.ofChange netServesAsSpecifiedSpec)

/-- ITS FALSE NEIGHBOUR: 'it returns false'. Refute it at one input. -/
def netServesAsSpecifiedWrong : ChangeSpec := { name := "netServesAsSpecified", fn := fun _ => fun
  | [d1, d2, d3, d4] => { results := [.lit (.bool false)], args := [d1, d2, d3, d4] }
  | _ => none }
def NetServesAsSpecifiedWrongFalsely : Prop := netServesAsSpecifiedRow.holds Try.pinned (OpenSpec.ofChange netServesAsSpecifiedWrong)

/- THE SECOND FORM. 'bulk': how many values and letters a reading holds, each counted each time it is reached (what is shared counts as often as it is met; a slice's spare places count too). A statement '..UptoSaid' is the law's where the arguments, and the package variables that the reading takes, are together of bulk at most 1048576: NARROWER than '..Said'. Prove '..Said' where nothing that the law and all that it calls make is longer than what came in: it says more and counts as full. Else prove '..UptoSaid'. A law counts once. -/
mutual
def uptoBulk {H : Type} : DataW H → Nat
  | .lit (.string bytes) => bytes.length + 1
  | .lit _ => 1
  | .nil => 1
  | .ptr d => uptoBulk d + 1
  | .slice elems spare => uptoBulkAll elems + uptoBulkAll spare + 1
  | .agg parts => uptoBulkAll parts + 1
  | .iface _ d => uptoBulk d + 1
  | .map entries => uptoBulkEntries entries + 1
  | .held _ => 1
def uptoBulkAll {H : Type} : List (DataW H) → Nat
  | [] => 0
  | d :: r => uptoBulk d + uptoBulkAll r
def uptoBulkEntries {H : Type} : List (Lit × DataW H) → Nat
  | [] => 0
  | x :: r => uptoBulkEntry x + uptoBulkEntries r
def uptoBulkEntry {H : Type} : Lit × DataW H → Nat
  | (.string bytes, d) => bytes.length + uptoBulk d + 1
  | (_, d) => uptoBulk d + 1
 end
def uptoSmall : (H : Type) → List (DataW H) → Bool := fun _ ds => decide (uptoBulkAll ds ≤ 1048576)
def OpenSpec.upto (s : _root_.Go.ChangeSpec) : _root_.Go.OpenSpec := { _root_.Go.OpenSpec.ofChange s with cond := some uptoSmall }

/-- 'quietuslaw15.NetChecksAsSpecified', WHERE WHAT IT READS IS OF BULK AT MOST 1048576: true; the input reads as it did. -/
def netChecksAsSpecifiedUptoRow : OpenClaim := { program := "ytoojbjfofokfjaa", sum := "0a2b5e52dc56d3a3de0dd8feedce08ffd4c8e5ab67f576058e9684946d33ecdc", func := "quietus/quietuslaw15.NetChecksAsSpecified", spec := "netChecksAsSpecified", unfollowed := true, recurses := true, plainKeys := false, apart := false, narrowed := true }
def NetChecksAsSpecifiedUptoSaid : Prop := netChecksAsSpecifiedUptoRow.holds Try.pinned (OpenSpec.upto netChecksAsSpecifiedSpec)

/-- 'quietuslaw15.NetConserves', WHERE WHAT IT READS IS OF BULK AT MOST 1048576: true; the input reads as it did. -/
def netConservesUptoRow : OpenClaim := { program := "ytoojbjfofokfjaa", sum := "0a2b5e52dc56d3a3de0dd8feedce08ffd4c8e5ab67f576058e9684946d33ecdc", func := "quietus/quietuslaw15.NetConserves", spec := "netConserves", unfollowed := true, recurses := true, plainKeys := false, apart := false, narrowed := true }
def NetConservesUptoSaid : Prop := netConservesUptoRow.holds Try.pinned (OpenSpec.upto netConservesSpec)

/-- 'quietuslaw15.NetCuts', WHERE WHAT IT READS IS OF BULK AT MOST 1048576: true; the input reads as it did. -/
def netCutsUptoRow : OpenClaim := { program := "ytoojbjfofokfjaa", sum := "0a2b5e52dc56d3a3de0dd8feedce08ffd4c8e5ab67f576058e9684946d33ecdc", func := "quietus/quietuslaw15.NetCuts", spec := "netCuts", unfollowed := true, recurses := true, plainKeys := false, apart := false, narrowed := true }
def NetCutsUptoSaid : Prop := netCutsUptoRow.holds Try.pinned (OpenSpec.upto netCutsSpec)

/-- 'quietuslaw15.NetRelaxes', WHERE WHAT IT READS IS OF BULK AT MOST 1048576: true; the input reads as it did. -/
def netRelaxesUptoRow : OpenClaim := { program := "ytoojbjfofokfjaa", sum := "0a2b5e52dc56d3a3de0dd8feedce08ffd4c8e5ab67f576058e9684946d33ecdc", func := "quietus/quietuslaw15.NetRelaxes", spec := "netRelaxes", unfollowed := true, recurses := true, plainKeys := false, apart := false, narrowed := true }
def NetRelaxesUptoSaid : Prop := netRelaxesUptoRow.holds Try.pinned (OpenSpec.upto netRelaxesSpec)

/-- 'quietuslaw15.NetJoins', WHERE WHAT IT READS IS OF BULK AT MOST 1048576: true; the input reads as it did. -/
def netJoinsUptoRow : OpenClaim := { program := "ytoojbjfofokfjaa", sum := "0a2b5e52dc56d3a3de0dd8feedce08ffd4c8e5ab67f576058e9684946d33ecdc", func := "quietus/quietuslaw15.NetJoins", spec := "netJoins", unfollowed := true, recurses := true, plainKeys := false, apart := false, narrowed := true }
def NetJoinsUptoSaid : Prop := netJoinsUptoRow.holds Try.pinned (OpenSpec.upto netJoinsSpec)

/-- 'quietuslaw15.NetServesAsSpecified', WHERE WHAT IT READS IS OF BULK AT MOST 1048576: true; the input reads as it did. -/
def netServesAsSpecifiedUptoRow : OpenClaim := { program := "ytoojbjfofokfjaa", sum := "0a2b5e52dc56d3a3de0dd8feedce08ffd4c8e5ab67f576058e9684946d33ecdc", func := "quietus/quietuslaw15.NetServesAsSpecified", spec := "netServesAsSpecified", unfollowed := true, recurses := true, plainKeys := false, apart := false, narrowed := true }
def NetServesAsSpecifiedUptoSaid : Prop := netServesAsSpecifiedUptoRow.holds Try.pinned (OpenSpec.upto netServesAsSpecifiedSpec)

end Rows
end Go.Proofs.Ytoojbjfofokfjaa
