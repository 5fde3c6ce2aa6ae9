/-
  No cell of these rows narrows 'for every input' (looked for: loops, veiled, ifaces, maps, wideKeys, modest, calm, conditions, laid).
  DERIVED. THE GIVEN ROWS OF THIS SEAT. 3 by the template 'for every input the law returns true; each argument reads behind the call as it read before'; 0 by the template 'total and deterministic' (their statements: YtdfjimjbdakofaaGreatTotals.lean).
  GIVEN WITH THE SEED: the statements are not yours to turn. If you find one false, say at which input.
  Laid BY PROGRAM, IN A SANDBOX (cutbox-rows.mjs): the forced cells as the released guide's own fill.sh prints them over the translation 95e8568b556ec312… (all of the seat's roots in one cut). By AI agents, Wed Nov 11 2026. No macro, syntax, notation, axiom, sorry.
-/
import Derived.Test.YtdfjimjbdakofaaGreatChecked
import GoSem.Claim
import GoSem.ClaimJoined
import GoSem.ClaimMapViews
import Derived.JoinedTies
import Derived.KernelRfl
namespace Go.Proofs.YtdfjimjbdakofaaGreat
/- THE CELL 'sum', in the pinned program and in every row, IS THE sha256 OF THE DUMP (.gsa) THAT YtdfjimjbdakofaaGreatProg.lean LOADS. Nothing in Lean hashes anything: it is a label: what it is worth is what the hold of that sum in a sandbox is worth. -/
noncomputable def Tryz.pinned : Pinned := { name := "ytdfjimjbdakofaagreat", sum := "95e8568b556ec3127011c26c47bdf21739deb46ddc62e470981eeb954ccadcc7", checked := Tryz.checked }
namespace Rows
def none {H : Type} : Left H := { results := [], args := [] }

/-- 'quietuslaw18.VanPlansCheapest': WHATEVER THE INPUT: true; the input reads as it did. -/
def vanPlansCheapestSpec : ChangeSpec := { name := "vanPlansCheapest", fn := fun _ => fun
  | [d] => { results := [.lit (.bool true)], args := [d] }
  | _ => none }
def vanPlansCheapestRow : OpenClaim := { program := "ytdfjimjbdakofaagreat", sum := "95e8568b556ec3127011c26c47bdf21739deb46ddc62e470981eeb954ccadcc7", func := "quietus/quietuslaw18.VanPlansCheapest", spec := "vanPlansCheapest", unfollowed := true, recurses := true, plainKeys := false, apart := false }
def VanPlansCheapestSaid : Prop := vanPlansCheapestRow.holds Tryz.pinned (OpenSpec.ofChange vanPlansCheapestSpec)

/-- ITS FALSE NEIGHBOUR: 'it returns false'. Refute it at one input. -/
def vanPlansCheapestWrong : ChangeSpec := { name := "vanPlansCheapest", fn := fun _ => fun
  | [d] => { results := [.lit (.bool false)], args := [d] }
  | _ => none }
def VanPlansCheapestWrongFalsely : Prop := vanPlansCheapestRow.holds Tryz.pinned (OpenSpec.ofChange vanPlansCheapestWrong)

/-- 'quietuslaw18.VanIsInTime': WHATEVER THE INPUT: true; the input reads as it did. -/
def vanIsInTimeSpec : ChangeSpec := { name := "vanIsInTime", fn := fun _ => fun
  | [d1, d2, d3] => { results := [.lit (.bool true)], args := [d1, d2, d3] }
  | _ => none }
def vanIsInTimeRow : OpenClaim := { program := "ytdfjimjbdakofaagreat", sum := "95e8568b556ec3127011c26c47bdf21739deb46ddc62e470981eeb954ccadcc7", func := "quietus/quietuslaw18.VanIsInTime", spec := "vanIsInTime", unfollowed := true, recurses := true, plainKeys := false, apart := false }
def VanIsInTimeSaid : Prop := vanIsInTimeRow.holds Tryz.pinned (OpenSpec.ofChange vanIsInTimeSpec)

/-- ITS FALSE NEIGHBOUR: 'it returns false'. Refute it at one input. -/
def vanIsInTimeWrong : ChangeSpec := { name := "vanIsInTime", fn := fun _ => fun
  | [d1, d2, d3] => { results := [.lit (.bool false)], args := [d1, d2, d3] }
  | _ => none }
def VanIsInTimeWrongFalsely : Prop := vanIsInTimeRow.holds Tryz.pinned (OpenSpec.ofChange vanIsInTimeWrong)

/-- 'quietuslaw18.VanProofsHold': WHATEVER THE INPUT: true; the input reads as it did. -/
def vanProofsHoldSpec : ChangeSpec := { name := "vanProofsHold", fn := fun _ => fun
  | [d1, d2, d3, d4] => { results := [.lit (.bool true)], args := [d1, d2, d3, d4] }
  | _ => none }
def vanProofsHoldRow : OpenClaim := { program := "ytdfjimjbdakofaagreat", sum := "95e8568b556ec3127011c26c47bdf21739deb46ddc62e470981eeb954ccadcc7", func := "quietus/quietuslaw18.VanProofsHold", spec := "vanProofsHold", unfollowed := true, recurses := true, plainKeys := false, apart := false }
def VanProofsHoldSaid : Prop := vanProofsHoldRow.holds Tryz.pinned (OpenSpec.ofChange vanProofsHoldSpec)

/-- ITS FALSE NEIGHBOUR: 'it returns false'. Refute it at one input. -/
def vanProofsHoldWrong : ChangeSpec := { name := "vanProofsHold", fn := fun _ => fun
  | [d1, d2, d3, d4] => { results := [.lit (.bool false)], args := [d1, d2, d3, d4] }
  | _ => none }
def VanProofsHoldWrongFalsely : Prop := vanProofsHoldRow.holds Tryz.pinned (OpenSpec.ofChange vanProofsHoldWrong)

/- THE SECOND FORM. 'bulk': how many values and letters a reading holds, each counted each time it is reached (what is shared counts as often as it is met; a slice's spare places count too). A statement '..UptoSaid' is the law's where the arguments, and the package variables that the reading takes, are together of bulk at most 1048576: NARROWER than '..Said'. Prove '..Said' where nothing that the law and all that it calls make is longer than what came in: it says more and counts as full. Else prove '..UptoSaid'. A law counts once. -/
mutual
def uptoBulk {H : Type} : DataW H → Nat
  | .lit (.string bytes) => bytes.length + 1
  | .lit _ => 1
  | .nil => 1
  | .ptr d => uptoBulk d + 1
  | .slice elems spare => uptoBulkAll elems + uptoBulkAll spare + 1
  | .agg parts => uptoBulkAll parts + 1
  | .iface _ d => uptoBulk d + 1
  | .map entries => uptoBulkEntries entries + 1
  | .held _ => 1
def uptoBulkAll {H : Type} : List (DataW H) → Nat
  | [] => 0
  | d :: r => uptoBulk d + uptoBulkAll r
def uptoBulkEntries {H : Type} : List (Lit × DataW H) → Nat
  | [] => 0
  | x :: r => uptoBulkEntry x + uptoBulkEntries r
def uptoBulkEntry {H : Type} : Lit × DataW H → Nat
  | (.string bytes, d) => bytes.length + uptoBulk d + 1
  | (_, d) => uptoBulk d + 1
 end
def uptoSmall : (H : Type) → List (DataW H) → Bool := fun _ ds => decide (uptoBulkAll ds ≤ 1048576)
def OpenSpec.upto (s : _root_.Go.ChangeSpec) : _root_.Go.OpenSpec := { _root_.Go.OpenSpec.ofChange s with cond := some uptoSmall }

/-- 'quietuslaw18.VanPlansCheapest', WHERE WHAT IT READS IS OF BULK AT MOST 1048576: true; the input reads as it did. -/
def vanPlansCheapestUptoRow : OpenClaim := { program := "ytdfjimjbdakofaagreat", sum := "95e8568b556ec3127011c26c47bdf21739deb46ddc62e470981eeb954ccadcc7", func := "quietus/quietuslaw18.VanPlansCheapest", spec := "vanPlansCheapest", unfollowed := true, recurses := true, plainKeys := false, apart := false, narrowed := true }
def VanPlansCheapestUptoSaid : Prop := vanPlansCheapestUptoRow.holds Tryz.pinned (OpenSpec.upto vanPlansCheapestSpec)

/-- 'quietuslaw18.VanIsInTime', WHERE WHAT IT READS IS OF BULK AT MOST 1048576: true; the input reads as it did. -/
def vanIsInTimeUptoRow : OpenClaim := { program := "ytdfjimjbdakofaagreat", sum := "95e8568b556ec3127011c26c47bdf21739deb46ddc62e470981eeb954ccadcc7", func := "quietus/quietuslaw18.VanIsInTime", spec := "vanIsInTime", unfollowed := true, recurses := true, plainKeys := false, apart := false, narrowed := true }
def VanIsInTimeUptoSaid : Prop := vanIsInTimeUptoRow.holds Tryz.pinned (OpenSpec.upto vanIsInTimeSpec)

/-- 'quietuslaw18.VanProofsHold', WHERE WHAT IT READS IS OF BULK AT MOST 1048576: true; the input reads as it did. -/
def vanProofsHoldUptoRow : OpenClaim := { program := "ytdfjimjbdakofaagreat", sum := "95e8568b556ec3127011c26c47bdf21739deb46ddc62e470981eeb954ccadcc7", func := "quietus/quietuslaw18.VanProofsHold", spec := "vanProofsHold", unfollowed := true, recurses := true, plainKeys := false, apart := false, narrowed := true }
def VanProofsHoldUptoSaid : Prop := vanProofsHoldUptoRow.holds Tryz.pinned (OpenSpec.upto vanProofsHoldSpec)

end Rows
end Go.Proofs.YtdfjimjbdakofaaGreat
