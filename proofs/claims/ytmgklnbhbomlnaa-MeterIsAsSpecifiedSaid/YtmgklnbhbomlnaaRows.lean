/-
  No cell of these rows narrows 'for every input' (looked for: loops, veiled, ifaces, maps, wideKeys, modest, calm, conditions, laid).
  DERIVED. THE GIVEN ROWS OF THIS SEAT. 4 by the template 'for every input the law returns true; each argument reads behind the call as it read before'; 0 by the template 'total and deterministic' (their statements: YtmgklnbhbomlnaaTotals.lean).
  GIVEN WITH THE SEED: the statements are not yours to turn. If you find one false, say at which input.
  Laid BY PROGRAM, IN A SANDBOX (cutbox-rows.mjs): the forced cells as the released guide's own fill.sh prints them over the translation 48c73f46d300784a… (all of the seat's roots in one cut). By AI agents, Wed Nov 11 2026. No macro, syntax, notation, axiom, sorry.
-/
import Derived.Test.YtmgklnbhbomlnaaChecked
import GoSem.Claim
import GoSem.ClaimJoined
import GoSem.ClaimMapViews
import Derived.JoinedTies
import Derived.KernelRfl
namespace Go.Proofs.Ytmgklnbhbomlnaa
/- THE CELL 'sum', in the pinned program and in every row, IS THE sha256 OF THE DUMP (.gsa) THAT YtmgklnbhbomlnaaProg.lean LOADS. Nothing in Lean hashes anything: it is a label: what it is worth is what the hold of that sum in a sandbox is worth. -/
noncomputable def Try.pinned : Pinned := { name := "ytmgklnbhbomlnaa", sum := "48c73f46d300784ab8eb84b6a1746aa66acac296342c5fce24a65e4536a477c7", checked := Try.checked }
namespace Rows
def none {H : Type} : Left H := { results := [], args := [] }

/-- 'quietuslaw49.MeterIsAsSpecified': WHATEVER THE INPUT: true; the input reads as it did. -/
def meterIsAsSpecifiedSpec : ChangeSpec := { name := "meterIsAsSpecified", fn := fun _ => fun
  | [d1, d2, d3, d4, d5] => { results := [.lit (.bool true)], args := [d1, d2, d3, d4, d5] }
  | _ => none }
def meterIsAsSpecifiedRow : OpenClaim := { program := "ytmgklnbhbomlnaa", sum := "48c73f46d300784ab8eb84b6a1746aa66acac296342c5fce24a65e4536a477c7", func := "quietus/quietuslaw49.MeterIsAsSpecified", spec := "meterIsAsSpecified", unfollowed := true, recurses := true, plainKeys := false, apart := false }
def MeterIsAsSpecifiedSaid : Prop := meterIsAsSpecifiedRow.holds Try.pinned (OpenSpec.ofChange meterIsAsSpecifiedSpec)

/-- ITS FALSE NEIGHBOUR: 'it returns false'. Refute it at one input. -/
def meterIsAsSpecifiedWrong : ChangeSpec := { name := "meterIsAsSpecified", fn := fun _ => fun
  | [d1, d2, d3, d4, d5] => { results := [.lit (.bool false)], args := [d1, d2, d3, d4, d5] }
  | _ => none }
def MeterIsAsSpecifiedWrongFalsely : Prop := meterIsAsSpecifiedRow.holds Try.pinned (OpenSpec.ofChange meterIsAsSpecifiedWrong)

/-- 'quietuslaw49.MeterAddsUp': WHATEVER THE INPUT: true; the input reads as it did. -/
def meterAddsUpSpec : ChangeSpec := { name := "meterAddsUp", fn := fun _ => fun
  | [d1, d2, d3, d4] => { results := [.lit (.bool true)], args := [d1, d2, d3, d4] }
  | _ => none }
def meterAddsUpRow : OpenClaim := { program := "ytmgklnbhbomlnaa", sum := "48c73f46d300784ab8eb84b6a1746aa66acac296342c5fce24a65e4536a477c7", func := "quietus/quietuslaw49.MeterAddsUp", spec := "meterAddsUp", unfollowed := true, recurses := true, plainKeys := false, apart := false }
def MeterAddsUpSaid : Prop := meterAddsUpRow.holds Try.pinned (OpenSpec.ofChange meterAddsUpSpec)

/-- ITS FALSE NEIGHBOUR: 'it returns false'. Refute it at one input. -/
def meterAddsUpWrong : ChangeSpec := { name := "meterAddsUp", fn := fun _ => fun
  | [d1, d2, d3, d4] => { results := [.lit (.bool false)], args := [d1, d2, d3, d4] }
  | _ => none }
def MeterAddsUpWrongFalsely : Prop := meterAddsUpRow.holds Try.pinned (OpenSpec.ofChange meterAddsUpWrong)

/-- 'quietuslaw49.MeterDivides': WHATEVER THE INPUT: true; the input reads as it did. -/
def meterDividesSpec : ChangeSpec := { name := "meterDivides", fn := fun _ => fun
  | [d1, d2, d3, d4] => { results := [.lit (.bool true)], args := [d1, d2, d3, d4] }
  | _ => none }
def meterDividesRow : OpenClaim := { program := "ytmgklnbhbomlnaa", sum := "48c73f46d300784ab8eb84b6a1746aa66acac296342c5fce24a65e4536a477c7", func := "quietus/quietuslaw49.MeterDivides", spec := "meterDivides", unfollowed := true, recurses := true, plainKeys := false, apart := false }
def MeterDividesSaid : Prop := meterDividesRow.holds Try.pinned (OpenSpec.ofChange meterDividesSpec)

/-- ITS FALSE NEIGHBOUR: 'it returns false'. Refute it at one input. -/
def meterDividesWrong : ChangeSpec := { name := "meterDivides", fn := fun _ => fun
  | [d1, d2, d3, d4] => { results := [.lit (.bool false)], args := [d1, d2, d3, d4] }
  | _ => none }
def MeterDividesWrongFalsely : Prop := meterDividesRow.holds Try.pinned (OpenSpec.ofChange meterDividesWrong)

/-- 'quietuslaw49.MeterSettles': WHATEVER THE INPUT: true; the input reads as it did. -/
def meterSettlesSpec : ChangeSpec := { name := "meterSettles", fn := fun _ => fun
  | [d1, d2, d3, d4, d5] => { results := [.lit (.bool true)], args := [d1, d2, d3, d4, d5] }
  | _ => none }
def meterSettlesRow : OpenClaim := { program := "ytmgklnbhbomlnaa", sum := "48c73f46d300784ab8eb84b6a1746aa66acac296342c5fce24a65e4536a477c7", func := "quietus/quietuslaw49.MeterSettles", spec := "meterSettles", unfollowed := true, recurses := true, plainKeys := false, apart := false }
def MeterSettlesSaid : Prop := meterSettlesRow.holds Try.pinned (OpenSpec.ofChange meterSettlesSpec)

/-- ITS FALSE NEIGHBOUR: 'it returns false'. Refute it at one input. -/
def meterSettlesWrong : ChangeSpec := { name := "meterSettles", fn := fun _ => fun
  | [d1, d2, d3, d4, d5] => { results := [.lit (.bool false)], args := [d1, d2, d3, d4, d5] }
  | _ => none }
def MeterSettlesWrongFalsely : Prop := meterSettlesRow.holds Try.pinned (OpenSpec.ofChange meterSettlesWrong)

/- THE SECOND FORM. 'bulk': how many values and letters a reading holds, each counted each time it is reached (what is shared counts as often as it is met; a slice's spare places count too). A statement '..UptoSaid' is the law's where the arguments, and the package variables that the reading takes, are together of bulk at most 1048576: NARROWER than '..Said'. Prove '..Said' where nothing that the law and all that it calls make is longer than what came in: it says more and counts as full. Else prove '..UptoSaid'. A law counts once. -/
mutual
def uptoBulk {H : Type} : DataW H → Nat
  | .lit (.string bytes) => bytes.length + 1
  | .lit _ => 1
  | .nil => 1
  | .ptr d => uptoBulk d + 1
  | .slice elems spare => uptoBulkAll elems + uptoBulkAll spare + 1
  | .agg parts => uptoBulkAll parts + 1
  | .iface _ d => uptoBulk d + 1
  | .map entries => uptoBulkEntries entries + 1
  | .held _ => 1
def uptoBulkAll {H : Type} : List (DataW H) → Nat
  | [] => 0
  | d :: r => uptoBulk d + uptoBulkAll r
def uptoBulkEntries {H : Type} : List (Lit × DataW H) → Nat
  | [] => 0
  | x :: r => uptoBulkEntry x + uptoBulkEntries r
def uptoBulkEntry {H : Type} : Lit × DataW H → Nat
  | (.string bytes, d) => bytes.length + uptoBulk d + 1
  | (_, d) => uptoBulk d + 1
 end
def uptoSmall : (H : Type) → List (DataW H) → Bool := fun _ ds => decide (uptoBulkAll ds ≤ 1048576)
def OpenSpec.upto (s : _root_.Go.ChangeSpec) : _root_.Go.OpenSpec := { _root_.Go.OpenSpec.ofChange s with cond := some uptoSmall }

/-- 'quietuslaw49.MeterIsAsSpecified', WHERE WHAT IT READS IS OF BULK AT MOST 1048576: true; the input reads as it did. -/
def meterIsAsSpecifiedUptoRow : OpenClaim := { program := "ytmgklnbhbomlnaa", sum := "48c73f46d300784ab8eb84b6a1746aa66acac296342c5fce24a65e4536a477c7", func := "quietus/quietuslaw49.MeterIsAsSpecified", spec := "meterIsAsSpecified", unfollowed := true, recurses := true, plainKeys := false, apart := false, narrowed := true }
def MeterIsAsSpecifiedUptoSaid : Prop := meterIsAsSpecifiedUptoRow.holds Try.pinned (OpenSpec.upto meterIsAsSpecifiedSpec)

/-- 'quietuslaw49.MeterAddsUp', WHERE WHAT IT READS IS OF BULK AT MOST 1048576: true; the input reads as it did. -/
def meterAddsUpUptoRow : OpenClaim := { program := "ytmgklnbhbomlnaa", sum := "48c73f46d300784ab8eb84b6a1746aa66acac296342c5fce24a65e4536a477c7", func := "quietus/quietuslaw49.MeterAddsUp", spec := "meterAddsUp", unfollowed := true, recurses := true, plainKeys := false, apart := false, narrowed := true }
def MeterAddsUpUptoSaid : Prop := meterAddsUpUptoRow.holds Try.pinned (OpenSpec.upto meterAddsUpSpec)

/-- 'quietuslaw49.MeterDivides', WHERE WHAT IT READS IS OF BULK AT MOST 1048576: true; the input reads as it did. -/
def meterDividesUptoRow : OpenClaim := { program := "ytmgklnbhbomlnaa", sum := "48c73f46d300784ab8eb84b6a1746aa66acac296342c5fce24a65e4536a477c7", func := "quietus/quietuslaw49.MeterDivides", spec := "meterDivides", unfollowed := true, recurses := true, plainKeys := false, apart := false, narrowed := true }
def MeterDividesUptoSaid : Prop := meterDividesUptoRow.holds Try.pinned (OpenSpec.upto meterDividesSpec)

/-- 'quietuslaw49.MeterSettles', WHERE WHAT IT READS IS OF BULK AT MOST 1048576: true; the input reads as it did. -/
def meterSettlesUptoRow : OpenClaim := { program := "ytmgklnbhbomlnaa", sum := "48c73f46d300784ab8eb84b6a1746aa66acac296342c5fce24a65e4536a477c7", func := "quietus/quietuslaw49.MeterSettles", spec := "meterSettles", unfollowed := true, recurses := true, plainKeys := false, apart := false, narrowed := true }
def MeterSettlesUptoSaid : Prop := meterSettlesUptoRow.holds Try.pinned (OpenSpec.upto meterSettlesSpec)

end Rows
end Go.Proofs.Ytmgklnbhbomlnaa
