/-
  No cell of these rows narrows 'for every input' (looked for: loops, veiled, ifaces, maps, wideKeys, modest, calm, conditions, laid).
  DERIVED. THE GIVEN ROWS OF THIS SEAT. 7 by the template 'for every input the law returns true; each argument reads behind the call as it read before'; 0 by the template 'total and deterministic' (their statements: YtppljhpecoeakaaTotals.lean).
  GIVEN WITH THE SEED: the statements are not yours to turn. If you find one false, say at which input.
  Laid BY PROGRAM, IN A SANDBOX (cutbox-rows.mjs): the forced cells as the released guide's own fill.sh prints them over the translation 53a4bba2eb06e81a… (all of the seat's roots in one cut). By AI agents, Wed Nov 11 2026. No macro, syntax, notation, axiom, sorry.
-/
import Derived.Test.YtppljhpecoeakaaChecked
import GoSem.Claim
import GoSem.ClaimJoined
import GoSem.ClaimMapViews
import Derived.JoinedTies
import Derived.KernelRfl
namespace Go.Proofs.Ytppljhpecoeakaa
/- THE CELL 'sum', in the pinned program and in every row, IS THE sha256 OF THE DUMP (.gsa) THAT YtppljhpecoeakaaProg.lean LOADS. Nothing in Lean hashes anything: it is a label: what it is worth is what the hold of that sum in a sandbox is worth. -/
noncomputable def Try.pinned : Pinned := { name := "ytppljhpecoeakaa", sum := "53a4bba2eb06e81a74cf77d5a24f37f595140350d91aa0422b2a511ab848807a", checked := Try.checked }
namespace Rows
def none {H : Type} : Left H := { results := [], args := [] }

/-- 'quietuslaw17.PriceBoundsAsSpecified': WHATEVER THE INPUT: true; the input reads as it did. -/
def priceBoundsAsSpecifiedSpec : ChangeSpec := { name := "priceBoundsAsSpecified", fn := fun _ => fun
  | [d1, d2] => { results := [.lit (.bool true)], args := [d1, d2] }
  | _ => none }
def priceBoundsAsSpecifiedRow : OpenClaim := { program := "ytppljhpecoeakaa", sum := "53a4bba2eb06e81a74cf77d5a24f37f595140350d91aa0422b2a511ab848807a", func := "quietus/quietuslaw17.PriceBoundsAsSpecified", spec := "priceBoundsAsSpecified", unfollowed := true, recurses := true, plainKeys := false, apart := false }
def PriceBoundsAsSpecifiedSaid : Prop := priceBoundsAsSpecifiedRow.holds Try.pinned (OpenSpec.ofChange priceBoundsAsSpecifiedSpec)

/-- ITS FALSE NEIGHBOUR: 'it returns false'. Refute it at one input. -/
def priceBoundsAsSpecifiedWrong : ChangeSpec := { name := "priceBoundsAsSpecified", fn := fun _ => fun
  | [d1, d2] => { results := [.lit (.bool false)], args := [d1, d2] }
  | _ => none }
def PriceBoundsAsSpecifiedWrongFalsely : Prop := priceBoundsAsSpecifiedRow.holds Try.pinned (OpenSpec.ofChange priceBoundsAsSpecifiedWrong)

/-- 'quietuslaw17.PriceAcceptsAsSpecified': WHATEVER THE INPUT: true; the input reads as it did. -/
def priceAcceptsAsSpecifiedSpec : ChangeSpec := { name := "priceAcceptsAsSpecified", fn := fun _ => fun
  | [d1, d2, d3] => { results := [.lit (.bool true)], args := [d1, d2, d3] }
  | _ => none }
def priceAcceptsAsSpecifiedRow : OpenClaim := { program := "ytppljhpecoeakaa", sum := "53a4bba2eb06e81a74cf77d5a24f37f595140350d91aa0422b2a511ab848807a", func := "quietus/quietuslaw17.PriceAcceptsAsSpecified", spec := "priceAcceptsAsSpecified", unfollowed := true, recurses := true, plainKeys := false, apart := false }
def PriceAcceptsAsSpecifiedSaid : Prop := priceAcceptsAsSpecifiedRow.holds Try.pinned (OpenSpec.ofChange priceAcceptsAsSpecifiedSpec)

/-- ITS FALSE NEIGHBOUR: 'it returns false'. Refute it at one input. -/
def priceAcceptsAsSpecifiedWrong : ChangeSpec := { name := "priceAcceptsAsSpecified", fn := fun _ => fun
  | [d1, d2, d3] => { results := [.lit (.bool false)], args := [d1, d2, d3] }
  | _ => none }
def PriceAcceptsAsSpecifiedWrongFalsely : Prop := priceAcceptsAsSpecifiedRow.holds Try.pinned (OpenSpec.ofChange priceAcceptsAsSpecifiedWrong)

/-- 'quietuslaw17.PriceBarsAsSpecified': WHATEVER THE INPUT: true; the input reads as it did. -/
def priceBarsAsSpecifiedSpec : ChangeSpec := { name := "priceBarsAsSpecified", fn := fun _ => fun
  | [d1, d2] => { results := [.lit (.bool true)], args := [d1, d2] }
  | _ => none }
def priceBarsAsSpecifiedRow : OpenClaim := { program := "ytppljhpecoeakaa", sum := "53a4bba2eb06e81a74cf77d5a24f37f595140350d91aa0422b2a511ab848807a", func := "quietus/quietuslaw17.PriceBarsAsSpecified", spec := "priceBarsAsSpecified", unfollowed := true, recurses := true, plainKeys := false, apart := false }
def PriceBarsAsSpecifiedSaid : Prop := priceBarsAsSpecifiedRow.holds Try.pinned (OpenSpec.ofChange priceBarsAsSpecifiedSpec)

/-- ITS FALSE NEIGHBOUR: 'it returns false'. Refute it at one input. -/
def priceBarsAsSpecifiedWrong : ChangeSpec := { name := "priceBarsAsSpecified", fn := fun _ => fun
  | [d1, d2] => { results := [.lit (.bool false)], args := [d1, d2] }
  | _ => none }
def PriceBarsAsSpecifiedWrongFalsely : Prop := priceBarsAsSpecifiedRow.holds Try.pinned (OpenSpec.ofChange priceBarsAsSpecifiedWrong)

/-- 'quietuslaw17.PriceProves': WHATEVER THE INPUT: true; the input reads as it did. -/
def priceProvesSpec : ChangeSpec := { name := "priceProves", fn := fun _ => fun
  | [d] => { results := [.lit (.bool true)], args := [d] }
  | _ => none }
def priceProvesRow : OpenClaim := { program := "ytppljhpecoeakaa", sum := "53a4bba2eb06e81a74cf77d5a24f37f595140350d91aa0422b2a511ab848807a", func := "quietus/quietuslaw17.PriceProves", spec := "priceProves", unfollowed := true, recurses := true, plainKeys := false, apart := false }
def PriceProvesSaid : Prop := priceProvesRow.holds Try.pinned (OpenSpec.ofChange priceProvesSpec)

/-- ITS FALSE NEIGHBOUR: 'it returns false'. Refute it at one input. -/
def priceProvesWrong : ChangeSpec := { name := "priceProves", fn := fun _ => fun
  | [d] => { results := [.lit (.bool false)], args := [d] }
  | _ => none }
def PriceProvesWrongFalsely : Prop := priceProvesRow.holds Try.pinned (OpenSpec.ofChange priceProvesWrong)

/-- 'quietuslaw17.PriceIsSound': WHATEVER THE INPUT: true; the input reads as it did. -/
def priceIsSoundSpec : ChangeSpec := { name := "priceIsSound", fn := fun _ => fun
  | [d1, d2] => { results := [.lit (.bool true)], args := [d1, d2] }
  | _ => none }
def priceIsSoundRow : OpenClaim := { program := "ytppljhpecoeakaa", sum := "53a4bba2eb06e81a74cf77d5a24f37f595140350d91aa0422b2a511ab848807a", func := "quietus/quietuslaw17.PriceIsSound", spec := "priceIsSound", unfollowed := true, recurses := true, plainKeys := false, apart := false }
def PriceIsSoundSaid : Prop := priceIsSoundRow.holds Try.pinned (OpenSpec.ofChange priceIsSoundSpec)

/-- ITS FALSE NEIGHBOUR: 'it returns false'. Refute it at one input. -/
def priceIsSoundWrong : ChangeSpec := { name := "priceIsSound", fn := fun _ => fun
  | [d1, d2] => { results := [.lit (.bool false)], args := [d1, d2] }
  | _ => none }
def PriceIsSoundWrongFalsely : Prop := priceIsSoundRow.holds Try.pinned (OpenSpec.ofChange priceIsSoundWrong)

/-- 'quietuslaw17.PriceShifts': WHATEVER THE INPUT: true; the input reads as it did. -/
def priceShiftsSpec : ChangeSpec := { name := "priceShifts", fn := fun _ => fun
  | [d1, d2, d3] => { results := [.lit (.bool true)], args := [d1, d2, d3] }
  | _ => none }
def priceShiftsRow : OpenClaim := { program := "ytppljhpecoeakaa", sum := "53a4bba2eb06e81a74cf77d5a24f37f595140350d91aa0422b2a511ab848807a", func := "quietus/quietuslaw17.PriceShifts", spec := "priceShifts", unfollowed := true, recurses := true, plainKeys := false, apart := false }
def PriceShiftsSaid : Prop := priceShiftsRow.holds Try.pinned (OpenSpec.ofChange priceShiftsSpec)

/-- ITS FALSE NEIGHBOUR: 'it returns false'. Refute it at one input. -/
def priceShiftsWrong : ChangeSpec := { name := "priceShifts", fn := fun _ => fun
  | [d1, d2, d3] => { results := [.lit (.bool false)], args := [d1, d2, d3] }
  | _ => none }
def PriceShiftsWrongFalsely : Prop := priceShiftsRow.holds Try.pinned (OpenSpec.ofChange priceShiftsWrong)

/-- 'quietuslaw17.PriceBlocks': WHATEVER THE INPUT: true; the input reads as it did. -/
def priceBlocksSpec : ChangeSpec := { name := "priceBlocks", fn := fun _ => fun
  | [d1, d2] => { results := [.lit (.bool true)], args := [d1, d2] }
  | _ => none }
def priceBlocksRow : OpenClaim := { program := "ytppljhpecoeakaa", sum := "53a4bba2eb06e81a74cf77d5a24f37f595140350d91aa0422b2a511ab848807a", func := "quietus/quietuslaw17.PriceBlocks", spec := "priceBlocks", unfollowed := true, recurses := true, plainKeys := false, apart := false }
def PriceBlocksSaid : Prop := priceBlocksRow.holds Try.pinned (OpenSpec.ofChange priceBlocksSpec)

/-- ITS FALSE NEIGHBOUR: 'it returns false'. Refute it at one input. -/
def priceBlocksWrong : ChangeSpec := { name := "priceBlocks", fn := fun _ => fun
  | [d1, d2] => { results := [.lit (.bool false)], args := [d1, d2] }
  | _ => none }
def PriceBlocksWrongFalsely : Prop := priceBlocksRow.holds Try.pinned (OpenSpec.ofChange priceBlocksWrong)

/- THE SECOND FORM. 'bulk': how many values and letters a reading holds, each counted each time it is reached (what is shared counts as often as it is met; a slice's spare places count too). A statement '..UptoSaid' is the law's where the arguments, and the package variables that the reading takes, are together of bulk at most 1048576: NARROWER than '..Said'. Prove '..Said' where nothing that the law and all that it calls make is longer than what came in: it says more and counts as full. Else prove '..UptoSaid'. A law counts once. -/
mutual
def uptoBulk {H : Type} : DataW H → Nat
  | .lit (.string bytes) => bytes.length + 1
  | .lit _ => 1
  | .nil => 1
  | .ptr d => uptoBulk d + 1
  | .slice elems spare => uptoBulkAll elems + uptoBulkAll spare + 1
  | .agg parts => uptoBulkAll parts + 1
  | .iface _ d => uptoBulk d + 1
  | .map entries => uptoBulkEntries entries + 1
  | .held _ => 1
def uptoBulkAll {H : Type} : List (DataW H) → Nat
  | [] => 0
  | d :: r => uptoBulk d + uptoBulkAll r
def uptoBulkEntries {H : Type} : List (Lit × DataW H) → Nat
  | [] => 0
  | x :: r => uptoBulkEntry x + uptoBulkEntries r
def uptoBulkEntry {H : Type} : Lit × DataW H → Nat
  | (.string bytes, d) => bytes.length + uptoBulk d + 1
  | (_, d) => uptoBulk d + 1
 end
def uptoSmall : (H : Type) → List (DataW H) → Bool := fun _ ds => decide (uptoBulkAll ds ≤ 1048576)
def OpenSpec.upto (s : _root_.Go.ChangeSpec) : _root_.Go.OpenSpec := { _root_.Go.OpenSpec.ofChange s with cond := some uptoSmall }

/-- 'quietuslaw17.PriceBoundsAsSpecified', WHERE WHAT IT READS IS OF BULK AT MOST 1048576: true; the input reads as it did. -/
def priceBoundsAsSpecifiedUptoRow : OpenClaim := { program := "ytppljhpecoeakaa", sum := "53a4bba2eb06e81a74cf77d5a24f37f595140350d91aa0422b2a511ab848807a", func := "quietus/quietuslaw17.PriceBoundsAsSpecified", spec := "priceBoundsAsSpecified", unfollowed := true, recurses := true, plainKeys := false, apart := false, narrowed := true }
def PriceBoundsAsSpecifiedUptoSaid : Prop := priceBoundsAsSpecifiedUptoRow.holds Try.pinned (OpenSpec.upto priceBoundsAsSpecifiedSpec)

/-- 'quietuslaw17.PriceAcceptsAsSpecified', WHERE WHAT IT READS IS OF BULK AT MOST 1048576: true; the input reads as it did. -/
def priceAcceptsAsSpecifiedUptoRow : OpenClaim := { program := "ytppljhpecoeakaa", sum := "53a4bba2eb06e81a74cf77d5a24f37f595140350d91aa0422b2a511ab848807a", func := "quietus/quietuslaw17.PriceAcceptsAsSpecified", spec := "priceAcceptsAsSpecified", unfollowed := true, recurses := true, plainKeys := false, apart := false, narrowed := true }
def PriceAcceptsAsSpecifiedUptoSaid : Prop := priceAcceptsAsSpecifiedUptoRow.holds Try.pinned (OpenSpec.upto priceAcceptsAsSpecifiedSpec)

/-- 'quietuslaw17.PriceBarsAsSpecified', WHERE WHAT IT READS IS OF BULK AT MOST 1048576: true; the input reads as it did. -/
def priceBarsAsSpecifiedUptoRow : OpenClaim := { program := "ytppljhpecoeakaa", sum := "53a4bba2eb06e81a74cf77d5a24f37f595140350d91aa0422b2a511ab848807a", func := "quietus/quietuslaw17.PriceBarsAsSpecified", spec := "priceBarsAsSpecified", unfollowed := true, recurses := true, plainKeys := false, apart := false, narrowed := true }
def PriceBarsAsSpecifiedUptoSaid : Prop := priceBarsAsSpecifiedUptoRow.holds Try.pinned (OpenSpec.upto priceBarsAsSpecifiedSpec)

/-- 'quietuslaw17.PriceProves', WHERE WHAT IT READS IS OF BULK AT MOST 1048576: true; the input reads as it did. -/
def priceProvesUptoRow : OpenClaim := { program := "ytppljhpecoeakaa", sum := "53a4bba2eb06e81a74cf77d5a24f37f595140350d91aa0422b2a511ab848807a", func := "quietus/quietuslaw17.PriceProves", spec := "priceProves", unfollowed := true, recurses := true, plainKeys := false, apart := false, narrowed := true }
def PriceProvesUptoSaid : Prop := priceProvesUptoRow.holds Try.pinned (OpenSpec.upto priceProvesSpec)

/-- 'quietuslaw17.PriceIsSound', WHERE WHAT IT READS IS OF BULK AT MOST 1048576: true; the input reads as it did. -/
def priceIsSoundUptoRow : OpenClaim := { program := "ytppljhpecoeakaa", sum := "53a4bba2eb06e81a74cf77d5a24f37f595140350d91aa0422b2a511ab848807a", func := "quietus/quietuslaw17.PriceIsSound", spec := "priceIsSound", unfollowed := true, recurses := true, plainKeys := false, apart := false, narrowed := true }
def PriceIsSoundUptoSaid : Prop := priceIsSoundUptoRow.holds Try.pinned (OpenSpec.upto priceIsSoundSpec)

/-- 'quietuslaw17.PriceShifts', WHERE WHAT IT READS IS OF BULK AT MOST 1048576: true; the input reads as it did. -/
def priceShiftsUptoRow : OpenClaim := { program := "ytppljhpecoeakaa", sum := "53a4bba2eb06e81a74cf77d5a24f37f595140350d91aa0422b2a511ab848807a", func := "quietus/quietuslaw17.PriceShifts", spec := "priceShifts", unfollowed := true, recurses := true, plainKeys := false, apart := false, narrowed := true }
def PriceShiftsUptoSaid : Prop := priceShiftsUptoRow.holds Try.pinned (OpenSpec.upto priceShiftsSpec)

/-- 'quietuslaw17.PriceBlocks', WHERE WHAT IT READS IS OF BULK AT MOST 1048576: true; the input reads as it did. -/
def priceBlocksUptoRow : OpenClaim := { program := "ytppljhpecoeakaa", sum := "53a4bba2eb06e81a74cf77d5a24f37f595140350d91aa0422b2a511ab848807a", func := "quietus/quietuslaw17.PriceBlocks", spec := "priceBlocks", unfollowed := true, recurses := true, plainKeys := false, apart := false, narrowed := true }
def PriceBlocksUptoSaid : Prop := priceBlocksUptoRow.holds Try.pinned (OpenSpec.upto priceBlocksSpec)

end Rows
end Go.Proofs.Ytppljhpecoeakaa
