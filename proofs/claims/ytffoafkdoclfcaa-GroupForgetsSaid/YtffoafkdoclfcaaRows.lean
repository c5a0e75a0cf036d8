/-
  No cell of these rows narrows 'for every input' (looked for: loops, veiled, ifaces, maps, wideKeys, modest, calm, conditions, laid).
  DERIVED. THE GIVEN ROWS OF THIS SEAT. 5 by the template 'for every input the law returns true; each argument reads behind the call as it read before'; 0 by the template 'total and deterministic' (their statements: YtffoafkdoclfcaaTotals.lean).
  GIVEN WITH THE SEED: the statements are not yours to turn. If you find one false, say at which input.
  Laid BY PROGRAM, IN A SANDBOX (cutbox-rows.mjs): the forced cells as the released guide's own fill.sh prints them over the translation 9245922e04e37912… (all of the seat's roots in one cut). By AI agents, Wed Nov 11 2026. No macro, syntax, notation, axiom, sorry.
-/
import Derived.Test.YtffoafkdoclfcaaChecked
import GoSem.Claim
import GoSem.ClaimJoined
import GoSem.ClaimMapViews
import Derived.JoinedTies
import Derived.KernelRfl
namespace Go.Proofs.Ytffoafkdoclfcaa
/- THE CELL 'sum', in the pinned program and in every row, IS THE sha256 OF THE DUMP (.gsa) THAT YtffoafkdoclfcaaProg.lean LOADS. Nothing in Lean hashes anything: it is a label: what it is worth is what the hold of that sum in a sandbox is worth. -/
noncomputable def Try.pinned : Pinned := { name := "ytffoafkdoclfcaa", sum := "9245922e04e37912e0ed866f6248ebdee95e87487b68e297c80a3e71befd3ba3", checked := Try.checked }
namespace Rows
def none {H : Type} : Left H := { results := [], args := [] }

/-- 'clusterkernellaw38.GroupMany': WHATEVER THE INPUT: true; the input reads as it did. -/
def groupManySpec : ChangeSpec := { name := "groupMany", fn := fun _ => fun
  | [d1, d2, d3] => { results := [.lit (.bool true)], args := [d1, d2, d3] }
  | _ => none }
def groupManyRow : OpenClaim := { program := "ytffoafkdoclfcaa", sum := "9245922e04e37912e0ed866f6248ebdee95e87487b68e297c80a3e71befd3ba3", func := "clusterkernel/clusterkernellaw38.GroupMany", spec := "groupMany", inPlace := ["slices.overlaps[clusterkernel/api.Talk]"], unfollowed := true, recurses := true, apart := false }
def GroupManySaid : Prop := groupManyRow.holds Try.pinned (OpenSpec.ofChange groupManySpec)

/-- ITS FALSE NEIGHBOUR: 'it returns false'. Refute it at one input. -/
def groupManyWrong : ChangeSpec := { name := "groupMany", fn := fun _ => fun
  | [d1, d2, d3] => { results := [.lit (.bool false)], args := [d1, d2, d3] }
  | _ => none }
def GroupManyWrongFalsely : Prop := groupManyRow.holds Try.pinned (OpenSpec.ofChange groupManyWrong)

/-- 'clusterkernellaw38.GroupParts': WHATEVER THE INPUT: true; the input reads as it did. -/
def groupPartsSpec : ChangeSpec := { name := "groupParts", fn := fun _ => fun
  | [d1, d2, d3, d4] => { results := [.lit (.bool true)], args := [d1, d2, d3, d4] }
  | _ => none }
def groupPartsRow : OpenClaim := { program := "ytffoafkdoclfcaa", sum := "9245922e04e37912e0ed866f6248ebdee95e87487b68e297c80a3e71befd3ba3", func := "clusterkernel/clusterkernellaw38.GroupParts", spec := "groupParts", inPlace := ["slices.overlaps[clusterkernel/api.Talk]"], unfollowed := true, recurses := true, apart := false }
def GroupPartsSaid : Prop := groupPartsRow.holds Try.pinned (OpenSpec.ofChange groupPartsSpec)

/-- ITS FALSE NEIGHBOUR: 'it returns false'. Refute it at one input. -/
def groupPartsWrong : ChangeSpec := { name := "groupParts", fn := fun _ => fun
  | [d1, d2, d3, d4] => { results := [.lit (.bool false)], args := [d1, d2, d3, d4] }
  | _ => none }
def GroupPartsWrongFalsely : Prop := groupPartsRow.holds Try.pinned (OpenSpec.ofChange groupPartsWrong)

/-- 'clusterkernellaw38.GroupFull': WHATEVER THE INPUT: true; the input reads as it did. -/
def groupFullSpec : ChangeSpec := { name := "groupFull", fn := fun _ => fun
  | [d1, d2] => { results := [.lit (.bool true)], args := [d1, d2] }
  | _ => none }
def groupFullRow : OpenClaim := { program := "ytffoafkdoclfcaa", sum := "9245922e04e37912e0ed866f6248ebdee95e87487b68e297c80a3e71befd3ba3", func := "clusterkernel/clusterkernellaw38.GroupFull", spec := "groupFull", inPlace := ["slices.overlaps[clusterkernel/api.Talk]"], unfollowed := true, recurses := true, apart := false }
def GroupFullSaid : Prop := groupFullRow.holds Try.pinned (OpenSpec.ofChange groupFullSpec)

/-- ITS FALSE NEIGHBOUR: 'it returns false'. Refute it at one input. -/
def groupFullWrong : ChangeSpec := { name := "groupFull", fn := fun _ => fun
  | [d1, d2] => { results := [.lit (.bool false)], args := [d1, d2] }
  | _ => none }
def GroupFullWrongFalsely : Prop := groupFullRow.holds Try.pinned (OpenSpec.ofChange groupFullWrong)

/-- 'clusterkernellaw38.GroupCovers': WHATEVER THE INPUT: true; the input reads as it did. -/
def groupCoversSpec : ChangeSpec := { name := "groupCovers", fn := fun _ => fun
  | [d1, d2] => { results := [.lit (.bool true)], args := [d1, d2] }
  | _ => none }
def groupCoversRow : OpenClaim := { program := "ytffoafkdoclfcaa", sum := "9245922e04e37912e0ed866f6248ebdee95e87487b68e297c80a3e71befd3ba3", func := "clusterkernel/clusterkernellaw38.GroupCovers", spec := "groupCovers", inPlace := ["slices.overlaps[clusterkernel/api.Talk]"], unfollowed := true, recurses := true, apart := false }
def GroupCoversSaid : Prop := groupCoversRow.holds Try.pinned (OpenSpec.ofChange groupCoversSpec)

/-- ITS FALSE NEIGHBOUR: 'it returns false'. Refute it at one input. -/
def groupCoversWrong : ChangeSpec := { name := "groupCovers", fn := fun _ => fun
  | [d1, d2] => { results := [.lit (.bool false)], args := [d1, d2] }
  | _ => none }
def GroupCoversWrongFalsely : Prop := groupCoversRow.holds Try.pinned (OpenSpec.ofChange groupCoversWrong)

/-- 'clusterkernellaw38.GroupForgets': WHATEVER THE INPUT: true; the input reads as it did. -/
def groupForgetsSpec : ChangeSpec := { name := "groupForgets", fn := fun _ => fun
  | [d1, d2, d3] => { results := [.lit (.bool true)], args := [d1, d2, d3] }
  | _ => none }
def groupForgetsRow : OpenClaim := { program := "ytffoafkdoclfcaa", sum := "9245922e04e37912e0ed866f6248ebdee95e87487b68e297c80a3e71befd3ba3", func := "clusterkernel/clusterkernellaw38.GroupForgets", spec := "groupForgets", inPlace := ["slices.overlaps[clusterkernel/api.Talk]"], unfollowed := true, recurses := true, apart := false }
def GroupForgetsSaid : Prop := groupForgetsRow.holds Try.pinned (OpenSpec.ofChange groupForgetsSpec)

/-- ITS FALSE NEIGHBOUR: 'it returns false'. Refute it at one input. -/
def groupForgetsWrong : ChangeSpec := { name := "groupForgets", fn := fun _ => fun
  | [d1, d2, d3] => { results := [.lit (.bool false)], args := [d1, d2, d3] }
  | _ => none }
def GroupForgetsWrongFalsely : Prop := groupForgetsRow.holds Try.pinned (OpenSpec.ofChange groupForgetsWrong)

/- THE SECOND FORM. 'bulk': how many values and letters a reading holds, each counted each time it is reached (what is shared counts as often as it is met; a slice's spare places count too). A statement '..UptoSaid' is the law's where the arguments, and the package variables that the reading takes, are together of bulk at most 1048576: NARROWER than '..Said'. Prove '..Said' where nothing that the law and all that it calls make is longer than what came in: it says more and counts as full. Else prove '..UptoSaid'. A law counts once. -/
mutual
def uptoBulk {H : Type} : DataW H → Nat
  | .lit (.string bytes) => bytes.length + 1
  | .lit _ => 1
  | .nil => 1
  | .ptr d => uptoBulk d + 1
  | .slice elems spare => uptoBulkAll elems + uptoBulkAll spare + 1
  | .agg parts => uptoBulkAll parts + 1
  | .iface _ d => uptoBulk d + 1
  | .map entries => uptoBulkEntries entries + 1
  | .held _ => 1
def uptoBulkAll {H : Type} : List (DataW H) → Nat
  | [] => 0
  | d :: r => uptoBulk d + uptoBulkAll r
def uptoBulkEntries {H : Type} : List (Lit × DataW H) → Nat
  | [] => 0
  | x :: r => uptoBulkEntry x + uptoBulkEntries r
def uptoBulkEntry {H : Type} : Lit × DataW H → Nat
  | (.string bytes, d) => bytes.length + uptoBulk d + 1
  | (_, d) => uptoBulk d + 1
 end
def uptoSmall : (H : Type) → List (DataW H) → Bool := fun _ ds => decide (uptoBulkAll ds ≤ 1048576)
def OpenSpec.upto (s : _root_.Go.ChangeSpec) : _root_.Go.OpenSpec := { _root_.Go.OpenSpec.ofChange s with cond := some uptoSmall }

/-- 'clusterkernellaw38.GroupMany', WHERE WHAT IT READS IS OF BULK AT MOST 1048576: true; the input reads as it did. -/
def groupManyUptoRow : OpenClaim := { program := "ytffoafkdoclfcaa", sum := "9245922e04e37912e0ed866f6248ebdee95e87487b68e297c80a3e71befd3ba3", func := "clusterkernel/clusterkernellaw38.GroupMany", spec := "groupMany", inPlace := ["slices.overlaps[clusterkernel/api.Talk]"], unfollowed := true, recurses := true, apart := false, narrowed := true }
def GroupManyUptoSaid : Prop := groupManyUptoRow.holds Try.pinned (OpenSpec.upto groupManySpec)

/-- 'clusterkernellaw38.GroupParts', WHERE WHAT IT READS IS OF BULK AT MOST 1048576: true; the input reads as it did. -/
def groupPartsUptoRow : OpenClaim := { program := "ytffoafkdoclfcaa", sum := "9245922e04e37912e0ed866f6248ebdee95e87487b68e297c80a3e71befd3ba3", func := "clusterkernel/clusterkernellaw38.GroupParts", spec := "groupParts", inPlace := ["slices.overlaps[clusterkernel/api.Talk]"], unfollowed := true, recurses := true, apart := false, narrowed := true }
def GroupPartsUptoSaid : Prop := groupPartsUptoRow.holds Try.pinned (OpenSpec.upto groupPartsSpec)

/-- 'clusterkernellaw38.GroupFull', WHERE WHAT IT READS IS OF BULK AT MOST 1048576: true; the input reads as it did. -/
def groupFullUptoRow : OpenClaim := { program := "ytffoafkdoclfcaa", sum := "9245922e04e37912e0ed866f6248ebdee95e87487b68e297c80a3e71befd3ba3", func := "clusterkernel/clusterkernellaw38.GroupFull", spec := "groupFull", inPlace := ["slices.overlaps[clusterkernel/api.Talk]"], unfollowed := true, recurses := true, apart := false, narrowed := true }
def GroupFullUptoSaid : Prop := groupFullUptoRow.holds Try.pinned (OpenSpec.upto groupFullSpec)

/-- 'clusterkernellaw38.GroupCovers', WHERE WHAT IT READS IS OF BULK AT MOST 1048576: true; the input reads as it did. -/
def groupCoversUptoRow : OpenClaim := { program := "ytffoafkdoclfcaa", sum := "9245922e04e37912e0ed866f6248ebdee95e87487b68e297c80a3e71befd3ba3", func := "clusterkernel/clusterkernellaw38.GroupCovers", spec := "groupCovers", inPlace := ["slices.overlaps[clusterkernel/api.Talk]"], unfollowed := true, recurses := true, apart := false, narrowed := true }
def GroupCoversUptoSaid : Prop := groupCoversUptoRow.holds Try.pinned (OpenSpec.upto groupCoversSpec)

/-- 'clusterkernellaw38.GroupForgets', WHERE WHAT IT READS IS OF BULK AT MOST 1048576: true; the input reads as it did. -/
def groupForgetsUptoRow : OpenClaim := { program := "ytffoafkdoclfcaa", sum := "9245922e04e37912e0ed866f6248ebdee95e87487b68e297c80a3e71befd3ba3", func := "clusterkernel/clusterkernellaw38.GroupForgets", spec := "groupForgets", inPlace := ["slices.overlaps[clusterkernel/api.Talk]"], unfollowed := true, recurses := true, apart := false, narrowed := true }
def GroupForgetsUptoSaid : Prop := groupForgetsUptoRow.holds Try.pinned (OpenSpec.upto groupForgetsSpec)

end Rows
end Go.Proofs.Ytffoafkdoclfcaa
