/-
  No cell of these rows narrows 'for every input' (looked for: loops, veiled, ifaces, maps, wideKeys, modest, calm, conditions, laid).
  DERIVED. THE GIVEN ROWS OF THIS SEAT. 3 by the template 'for every input the law returns true; each argument reads behind the call as it read before'; 0 by the template 'total and deterministic' (their statements: YtambiicgncaaoaaTotals.lean).
  GIVEN WITH THE SEED: the statements are not yours to turn. If you find one false, say at which input.
  Laid BY PROGRAM, IN A SANDBOX (cutbox-rows.mjs): the forced cells as the released guide's own fill.sh prints them over the translation f74f7d0bebc2b4c7… (all of the seat's roots in one cut). By AI agents, Wed Nov 11 2026. No macro, syntax, notation, axiom, sorry.
-/
import Derived.Test.YtambiicgncaaoaaChecked
import GoSem.Claim
import GoSem.ClaimJoined
import GoSem.ClaimMapViews
import Derived.JoinedTies
import Derived.KernelRfl
namespace Go.Proofs.Ytambiicgncaaoaa
/- THE CELL 'sum', in the pinned program and in every row, IS THE sha256 OF THE DUMP (.gsa) THAT YtambiicgncaaoaaProg.lean LOADS. Nothing in Lean hashes anything: it is a label: what it is worth is what the hold of that sum in a sandbox is worth. -/
noncomputable def Try.pinned : Pinned := { name := "ytambiicgncaaoaa", sum := "f74f7d0bebc2b4c78d370037b13b302bb3989a194d6b6aad95fa9a1e8008c8b1", checked := Try.checked }
namespace Rows
def none {H : Type} : Left H := { results := [], args := [] }

/-- 'quietuslaw46.VerdictsAreAsSpecified': WHATEVER THE INPUT: true; the input reads as it did. -/
def verdictsAreAsSpecifiedSpec : ChangeSpec := { name := "verdictsAreAsSpecified", fn := fun _ => fun
  | [d1, d2, d3, d4] => { results := [.lit (.bool true)], args := [d1, d2, d3, d4] }
  | _ => none }
def verdictsAreAsSpecifiedRow : OpenClaim := { program := "ytambiicgncaaoaa", sum := "f74f7d0bebc2b4c78d370037b13b302bb3989a194d6b6aad95fa9a1e8008c8b1", func := "quietus/quietuslaw46.VerdictsAreAsSpecified", spec := "verdictsAreAsSpecified", unfollowed := true, recurses := true, named := ["math/bits.divideError", "math/bits.overflowError"], apart := false }
def VerdictsAreAsSpecifiedSaid : Prop := verdictsAreAsSpecifiedRow.holds Try.pinned (OpenSpec.ofChange verdictsAreAsSpecifiedSpec)

/-- ITS FALSE NEIGHBOUR: 'it returns false'. Refute it at one input. -/
def verdictsAreAsSpecifiedWrong : ChangeSpec := { name := "verdictsAreAsSpecified", fn := fun _ => fun
  | [d1, d2, d3, d4] => { results := [.lit (.bool false)], args := [d1, d2, d3, d4] }
  | _ => none }
def VerdictsAreAsSpecifiedWrongFalsely : Prop := verdictsAreAsSpecifiedRow.holds Try.pinned (OpenSpec.ofChange verdictsAreAsSpecifiedWrong)

/-- 'quietuslaw46.VerdictCountsSets': WHATEVER THE INPUT: true; the input reads as it did. -/
def verdictCountsSetsSpec : ChangeSpec := { name := "verdictCountsSets", fn := fun _ => fun
  | [d1, d2, d3] => { results := [.lit (.bool true)], args := [d1, d2, d3] }
  | _ => none }
def verdictCountsSetsRow : OpenClaim := { program := "ytambiicgncaaoaa", sum := "f74f7d0bebc2b4c78d370037b13b302bb3989a194d6b6aad95fa9a1e8008c8b1", func := "quietus/quietuslaw46.VerdictCountsSets", spec := "verdictCountsSets", unfollowed := true, recurses := true, named := ["math/bits.divideError", "math/bits.overflowError"], apart := false }
def VerdictCountsSetsSaid : Prop := verdictCountsSetsRow.holds Try.pinned (OpenSpec.ofChange verdictCountsSetsSpec)

/-- ITS FALSE NEIGHBOUR: 'it returns false'. Refute it at one input. -/
def verdictCountsSetsWrong : ChangeSpec := { name := "verdictCountsSets", fn := fun _ => fun
  | [d1, d2, d3] => { results := [.lit (.bool false)], args := [d1, d2, d3] }
  | _ => none }
def VerdictCountsSetsWrongFalsely : Prop := verdictCountsSetsRow.holds Try.pinned (OpenSpec.ofChange verdictCountsSetsWrong)

/-- 'quietuslaw46.VerdictIsMonotone': WHATEVER THE INPUT: true; the input reads as it did. -/
def verdictIsMonotoneSpec : ChangeSpec := { name := "verdictIsMonotone", fn := fun _ => fun
  | [d1, d2, d3] => { results := [.lit (.bool true)], args := [d1, d2, d3] }
  | _ => none }
def verdictIsMonotoneRow : OpenClaim := { program := "ytambiicgncaaoaa", sum := "f74f7d0bebc2b4c78d370037b13b302bb3989a194d6b6aad95fa9a1e8008c8b1", func := "quietus/quietuslaw46.VerdictIsMonotone", spec := "verdictIsMonotone", unfollowed := true, recurses := true, named := ["math/bits.divideError", "math/bits.overflowError"], apart := false }
def VerdictIsMonotoneSaid : Prop := verdictIsMonotoneRow.holds Try.pinned (OpenSpec.ofChange verdictIsMonotoneSpec)

/-- ITS FALSE NEIGHBOUR: 'it returns false'. Refute it at one input. -/
def verdictIsMonotoneWrong : ChangeSpec := { name := "verdictIsMonotone", fn := fun _ => fun
  | [d1, d2, d3] => { results := [.lit (.bool false)], args := [d1, d2, d3] }
  | _ => none }
def VerdictIsMonotoneWrongFalsely : Prop := verdictIsMonotoneRow.holds Try.pinned (OpenSpec.ofChange verdictIsMonotoneWrong)

/- THE SECOND FORM. 'bulk': how many values and letters a reading holds, each counted each time it is reached (what is shared counts as often as it is met; a slice's spare places count too). A statement '..UptoSaid' is the law's where the arguments, and the package variables that the reading takes, are together of bulk at most 1048576: NARROWER than '..Said'. Prove '..Said' where nothing that the law and all that it calls make is longer than what came in: it says more and counts as full. Else prove '..UptoSaid'. A law counts once. -/
mutual
def uptoBulk {H : Type} : DataW H → Nat
  | .lit (.string bytes) => bytes.length + 1
  | .lit _ => 1
  | .nil => 1
  | .ptr d => uptoBulk d + 1
  | .slice elems spare => uptoBulkAll elems + uptoBulkAll spare + 1
  | .agg parts => uptoBulkAll parts + 1
  | .iface _ d => uptoBulk d + 1
  | .map entries => uptoBulkEntries entries + 1
  | .held _ => 1
def uptoBulkAll {H : Type} : List (DataW H) → Nat
  | [] => 0
  | d :: r => uptoBulk d + uptoBulkAll r
def uptoBulkEntries {H : Type} : List (Lit × DataW H) → Nat
  | [] => 0
  | x :: r => uptoBulkEntry x + uptoBulkEntries r
def uptoBulkEntry {H : Type} : Lit × DataW H → Nat
  | (.string bytes, d) => bytes.length + uptoBulk d + 1
  | (_, d) => uptoBulk d + 1
 end
def uptoSmall : (H : Type) → List (DataW H) → Bool := fun _ ds => decide (uptoBulkAll ds ≤ 1048576)
def OpenSpec.upto (s : _root_.Go.ChangeSpec) : _root_.Go.OpenSpec := { _root_.Go.OpenSpec.ofChange s with cond := some uptoSmall }

/-- 'quietuslaw46.VerdictsAreAsSpecified', WHERE WHAT IT READS IS OF BULK AT MOST 1048576: true; the input reads as it did. -/
def verdictsAreAsSpecifiedUptoRow : OpenClaim := { program := "ytambiicgncaaoaa", sum := "f74f7d0bebc2b4c78d370037b13b302bb3989a194d6b6aad95fa9a1e8008c8b1", func := "quietus/quietuslaw46.VerdictsAreAsSpecified", spec := "verdictsAreAsSpecified", unfollowed := true, recurses := true, named := ["math/bits.divideError", "math/bits.overflowError"], apart := false, narrowed := true }
def VerdictsAreAsSpecifiedUptoSaid : Prop := verdictsAreAsSpecifiedUptoRow.holds Try.pinned (OpenSpec.upto verdictsAreAsSpecifiedSpec)

/-- 'quietuslaw46.VerdictCountsSets', WHERE WHAT IT READS IS OF BULK AT MOST 1048576: true; the input reads as it did. -/
def verdictCountsSetsUptoRow : OpenClaim := { program := "ytambiicgncaaoaa", sum := "f74f7d0bebc2b4c78d370037b13b302bb3989a194d6b6aad95fa9a1e8008c8b1", func := "quietus/quietuslaw46.VerdictCountsSets", spec := "verdictCountsSets", unfollowed := true, recurses := true, named := ["math/bits.divideError", "math/bits.overflowError"], apart := false, narrowed := true }
def VerdictCountsSetsUptoSaid : Prop := verdictCountsSetsUptoRow.holds Try.pinned (OpenSpec.upto verdictCountsSetsSpec)

/-- 'quietuslaw46.VerdictIsMonotone', WHERE WHAT IT READS IS OF BULK AT MOST 1048576: true; the input reads as it did. -/
def verdictIsMonotoneUptoRow : OpenClaim := { program := "ytambiicgncaaoaa", sum := "f74f7d0bebc2b4c78d370037b13b302bb3989a194d6b6aad95fa9a1e8008c8b1", func := "quietus/quietuslaw46.VerdictIsMonotone", spec := "verdictIsMonotone", unfollowed := true, recurses := true, named := ["math/bits.divideError", "math/bits.overflowError"], apart := false, narrowed := true }
def VerdictIsMonotoneUptoSaid : Prop := verdictIsMonotoneUptoRow.holds Try.pinned (OpenSpec.upto verdictIsMonotoneSpec)

end Rows
end Go.Proofs.Ytambiicgncaaoaa
