/-
  No cell of these rows narrows 'for every input' (looked for: loops, veiled, ifaces, maps, wideKeys, modest, calm, conditions, laid).
  DERIVED. THE GIVEN ROWS OF THIS SEAT. 3 by the template 'for every input the law returns true; each argument reads behind the call as it read before'; 0 by the template 'total and deterministic' (their statements: YtkecimhcoljobaaTotals.lean).
  GIVEN WITH THE SEED: the statements are not yours to turn. If you find one false, say at which input.
  Laid BY PROGRAM, IN A SANDBOX (cutbox-rows.mjs): the forced cells as the released guide's own fill.sh prints them over the translation 7a167b98e1597522… (all of the seat's roots in one cut). By AI agents, Wed Nov 11 2026. No macro, syntax, notation, axiom, sorry.
-/
import Derived.Test.YtkecimhcoljobaaChecked
import GoSem.Claim
import GoSem.ClaimJoined
import GoSem.ClaimMapViews
import Derived.JoinedTies
import Derived.KernelRfl
namespace Go.Proofs.Ytkecimhcoljobaa
/- THE CELL 'sum', in the pinned program and in every row, IS THE sha256 OF THE DUMP (.gsa) THAT YtkecimhcoljobaaProg.lean LOADS. Nothing in Lean hashes anything: it is a label: what it is worth is what the hold of that sum in a sandbox is worth. -/
noncomputable def Try.pinned : Pinned := { name := "ytkecimhcoljobaa", sum := "7a167b98e1597522770cb73486354859123de8e4e782ca391c10a712efba9735", checked := Try.checked }
namespace Rows
def none {H : Type} : Left H := { results := [], args := [] }

/-- 'quietuslaw43.TagsCountForgeries': WHATEVER THE INPUT: true; the input reads as it did. -/
def tagsCountForgeriesSpec : ChangeSpec := { name := "tagsCountForgeries", fn := fun _ => fun
  | [d1, d2, d3] => { results := [.lit (.bool true)], args := [d1, d2, d3] }
  | _ => none }
def tagsCountForgeriesRow : OpenClaim := { program := "ytkecimhcoljobaa", sum := "7a167b98e1597522770cb73486354859123de8e4e782ca391c10a712efba9735", func := "quietus/quietuslaw43.TagsCountForgeries", spec := "tagsCountForgeries", unfollowed := true, recurses := true, apart := false }
def TagsCountForgeriesSaid : Prop := tagsCountForgeriesRow.holds Try.pinned (OpenSpec.ofChange tagsCountForgeriesSpec)

/-- ITS FALSE NEIGHBOUR: 'it returns false'. Refute it at one input. -/
def tagsCountForgeriesWrong : ChangeSpec := { name := "tagsCountForgeries", fn := fun _ => fun
  | [d1, d2, d3] => { results := [.lit (.bool false)], args := [d1, d2, d3] }
  | _ => none }
def TagsCountForgeriesWrongFalsely : Prop := tagsCountForgeriesRow.holds Try.pinned (OpenSpec.ofChange tagsCountForgeriesWrong)

/-- 'quietuslaw43.TagsBlendAsSpecified': WHATEVER THE INPUT: true; the input reads as it did. -/
def tagsBlendAsSpecifiedSpec : ChangeSpec := { name := "tagsBlendAsSpecified", fn := fun _ => fun
  | [d1, d2] => { results := [.lit (.bool true)], args := [d1, d2] }
  | _ => none }
def tagsBlendAsSpecifiedRow : OpenClaim := { program := "ytkecimhcoljobaa", sum := "7a167b98e1597522770cb73486354859123de8e4e782ca391c10a712efba9735", func := "quietus/quietuslaw43.TagsBlendAsSpecified", spec := "tagsBlendAsSpecified", unfollowed := true, recurses := true, apart := false }
def TagsBlendAsSpecifiedSaid : Prop := tagsBlendAsSpecifiedRow.holds Try.pinned (OpenSpec.ofChange tagsBlendAsSpecifiedSpec)

/-- ITS FALSE NEIGHBOUR: 'it returns false'. Refute it at one input. -/
def tagsBlendAsSpecifiedWrong : ChangeSpec := { name := "tagsBlendAsSpecified", fn := fun _ => fun
  | [d1, d2] => { results := [.lit (.bool false)], args := [d1, d2] }
  | _ => none }
def TagsBlendAsSpecifiedWrongFalsely : Prop := tagsBlendAsSpecifiedRow.holds Try.pinned (OpenSpec.ofChange tagsBlendAsSpecifiedWrong)

/-- 'quietuslaw43.TagsAccept': WHATEVER THE INPUT: true; the input reads as it did. -/
def tagsAcceptSpec : ChangeSpec := { name := "tagsAccept", fn := fun _ => fun
  | [d1, d2, d3] => { results := [.lit (.bool true)], args := [d1, d2, d3] }
  | _ => none }
def tagsAcceptRow : OpenClaim := { program := "ytkecimhcoljobaa", sum := "7a167b98e1597522770cb73486354859123de8e4e782ca391c10a712efba9735", func := "quietus/quietuslaw43.TagsAccept", spec := "tagsAccept", unfollowed := true, recurses := true, apart := false }
def TagsAcceptSaid : Prop := tagsAcceptRow.holds Try.pinned (OpenSpec.ofChange tagsAcceptSpec)

/-- ITS FALSE NEIGHBOUR: 'it returns false'. Refute it at one input. -/
def tagsAcceptWrong : ChangeSpec := { name := "tagsAccept", fn := fun _ => fun
  | [d1, d2, d3] => { results := [.lit (.bool false)], args := [d1, d2, d3] }
  | _ => none }
def TagsAcceptWrongFalsely : Prop := tagsAcceptRow.holds Try.pinned (OpenSpec.ofChange tagsAcceptWrong)

/- THE SECOND FORM. 'bulk': how many values and letters a reading holds, each counted each time it is reached (what is shared counts as often as it is met; a slice's spare places count too). A statement '..UptoSaid' is the law's where the arguments, and the package variables that the reading takes, are together of bulk at most 1048576: NARROWER than '..Said'. Prove '..Said' where nothing that the law and all that it calls make is longer than what came in: it says more and counts as full. Else prove '..UptoSaid'. A law counts once. -/
mutual
def uptoBulk {H : Type} : DataW H → Nat
  | .lit (.string bytes) => bytes.length + 1
  | .lit _ => 1
  | .nil => 1
  | .ptr d => uptoBulk d + 1
  | .slice elems spare => uptoBulkAll elems + uptoBulkAll spare + 1
  | .agg parts => uptoBulkAll parts + 1
  | .iface _ d => uptoBulk d + 1
  | .map entries => uptoBulkEntries entries + 1
  | .held _ => 1
def uptoBulkAll {H : Type} : List (DataW H) → Nat
  | [] => 0
  | d :: r => uptoBulk d + uptoBulkAll r
def uptoBulkEntries {H : Type} : List (Lit × DataW H) → Nat
  | [] => 0
  | x :: r => uptoBulkEntry x + uptoBulkEntries r
def uptoBulkEntry {H : Type} : Lit × DataW H → Nat
  | (.string bytes, d) => bytes.length + uptoBulk d + 1
  | (_, d) => uptoBulk d + 1
 end
def uptoSmall : (H : Type) → List (DataW H) → Bool := fun _ ds => decide (uptoBulkAll ds ≤ 1048576)
def OpenSpec.upto (s : _root_.Go.ChangeSpec) : _root_.Go.OpenSpec := { _root_.Go.OpenSpec.ofChange s with cond := some uptoSmall }

/-- 'quietuslaw43.TagsCountForgeries', WHERE WHAT IT READS IS OF BULK AT MOST 1048576: true; the input reads as it did. -/
def tagsCountForgeriesUptoRow : OpenClaim := { program := "ytkecimhcoljobaa", sum := "7a167b98e1597522770cb73486354859123de8e4e782ca391c10a712efba9735", func := "quietus/quietuslaw43.TagsCountForgeries", spec := "tagsCountForgeries", unfollowed := true, recurses := true, apart := false, narrowed := true }
def TagsCountForgeriesUptoSaid : Prop := tagsCountForgeriesUptoRow.holds Try.pinned (OpenSpec.upto tagsCountForgeriesSpec)

/-- 'quietuslaw43.TagsBlendAsSpecified', WHERE WHAT IT READS IS OF BULK AT MOST 1048576: true; the input reads as it did. -/
def tagsBlendAsSpecifiedUptoRow : OpenClaim := { program := "ytkecimhcoljobaa", sum := "7a167b98e1597522770cb73486354859123de8e4e782ca391c10a712efba9735", func := "quietus/quietuslaw43.TagsBlendAsSpecified", spec := "tagsBlendAsSpecified", unfollowed := true, recurses := true, apart := false, narrowed := true }
def TagsBlendAsSpecifiedUptoSaid : Prop := tagsBlendAsSpecifiedUptoRow.holds Try.pinned (OpenSpec.upto tagsBlendAsSpecifiedSpec)

/-- 'quietuslaw43.TagsAccept', WHERE WHAT IT READS IS OF BULK AT MOST 1048576: true; the input reads as it did. -/
def tagsAcceptUptoRow : OpenClaim := { program := "ytkecimhcoljobaa", sum := "7a167b98e1597522770cb73486354859123de8e4e782ca391c10a712efba9735", func := "quietus/quietuslaw43.TagsAccept", spec := "tagsAccept", unfollowed := true, recurses := true, apart := false, narrowed := true }
def TagsAcceptUptoSaid : Prop := tagsAcceptUptoRow.holds Try.pinned (OpenSpec.upto tagsAcceptSpec)

end Rows
end Go.Proofs.Ytkecimhcoljobaa
