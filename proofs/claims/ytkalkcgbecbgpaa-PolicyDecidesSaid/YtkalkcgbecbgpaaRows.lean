/-
  No cell of these rows narrows 'for every input' (looked for: loops, veiled, ifaces, maps, wideKeys, modest, calm, conditions, laid).
  DERIVED. THE GIVEN ROWS OF THIS SEAT. 4 by the template 'for every input the law returns true; each argument reads behind the call as it read before'; 0 by the template 'total and deterministic' (their statements: YtkalkcgbecbgpaaTotals.lean).
  GIVEN WITH THE SEED: the statements are not yours to turn. If you find one false, say at which input.
  Laid BY PROGRAM, IN A SANDBOX (cutbox-rows.mjs): the forced cells as the released guide's own fill.sh prints them over the translation abba5b38c97294b2… (all of the seat's roots in one cut). By AI agents, Wed Nov 11 2026. No macro, syntax, notation, axiom, sorry.
-/
import Derived.Test.YtkalkcgbecbgpaaChecked
import GoSem.Claim
import GoSem.ClaimJoined
import GoSem.ClaimMapViews
import Derived.JoinedTies
import Derived.KernelRfl
namespace Go.Proofs.Ytkalkcgbecbgpaa
/- THE CELL 'sum', in the pinned program and in every row, IS THE sha256 OF THE DUMP (.gsa) THAT YtkalkcgbecbgpaaProg.lean LOADS. Nothing in Lean hashes anything: it is a label: what it is worth is what the hold of that sum in a sandbox is worth. -/
noncomputable def Try.pinned : Pinned := { name := "ytkalkcgbecbgpaa", sum := "abba5b38c97294b24fc0f577f99c8b606b5402dd435376cba17b217b03f57da2", checked := Try.checked }
namespace Rows
def none {H : Type} : Left H := { results := [], args := [] }

/-- 'clusterkernellaw39.PolicyDecides': WHATEVER THE INPUT: true; the input reads as it did. -/
def policyDecidesSpec : ChangeSpec := { name := "policyDecides", fn := fun _ => fun
  | [d1, d2, d3, d4, d5] => { results := [.lit (.bool true)], args := [d1, d2, d3, d4, d5] }
  | _ => none }
def policyDecidesRow : OpenClaim := { program := "ytkalkcgbecbgpaa", sum := "abba5b38c97294b24fc0f577f99c8b606b5402dd435376cba17b217b03f57da2", func := "clusterkernel/clusterkernellaw39.PolicyDecides", spec := "policyDecides", inPlace := ["slices.overlaps[clusterkernel/api.Place]"], unfollowed := true, recurses := true, apart := false }
def PolicyDecidesSaid : Prop := policyDecidesRow.holds Try.pinned (OpenSpec.ofChange policyDecidesSpec)

/-- ITS FALSE NEIGHBOUR: 'it returns false'. Refute it at one input. -/
def policyDecidesWrong : ChangeSpec := { name := "policyDecides", fn := fun _ => fun
  | [d1, d2, d3, d4, d5] => { results := [.lit (.bool false)], args := [d1, d2, d3, d4, d5] }
  | _ => none }
def PolicyDecidesWrongFalsely : Prop := policyDecidesRow.holds Try.pinned (OpenSpec.ofChange policyDecidesWrong)

/-- 'clusterkernellaw39.PolicySettles': WHATEVER THE INPUT: true; the input reads as it did. -/
def policySettlesSpec : ChangeSpec := { name := "policySettles", fn := fun _ => fun
  | [d1, d2] => { results := [.lit (.bool true)], args := [d1, d2] }
  | _ => none }
def policySettlesRow : OpenClaim := { program := "ytkalkcgbecbgpaa", sum := "abba5b38c97294b24fc0f577f99c8b606b5402dd435376cba17b217b03f57da2", func := "clusterkernel/clusterkernellaw39.PolicySettles", spec := "policySettles", inPlace := ["slices.overlaps[clusterkernel/api.Place]"], unfollowed := true, recurses := true, apart := false }
def PolicySettlesSaid : Prop := policySettlesRow.holds Try.pinned (OpenSpec.ofChange policySettlesSpec)

/-- ITS FALSE NEIGHBOUR: 'it returns false'. Refute it at one input. -/
def policySettlesWrong : ChangeSpec := { name := "policySettles", fn := fun _ => fun
  | [d1, d2] => { results := [.lit (.bool false)], args := [d1, d2] }
  | _ => none }
def PolicySettlesWrongFalsely : Prop := policySettlesRow.holds Try.pinned (OpenSpec.ofChange policySettlesWrong)

/-- 'clusterkernellaw39.PolicyCalm': WHATEVER THE INPUT: true; the input reads as it did. -/
def policyCalmSpec : ChangeSpec := { name := "policyCalm", fn := fun _ => fun
  | [d1, d2] => { results := [.lit (.bool true)], args := [d1, d2] }
  | _ => none }
def policyCalmRow : OpenClaim := { program := "ytkalkcgbecbgpaa", sum := "abba5b38c97294b24fc0f577f99c8b606b5402dd435376cba17b217b03f57da2", func := "clusterkernel/clusterkernellaw39.PolicyCalm", spec := "policyCalm", inPlace := ["slices.overlaps[clusterkernel/api.Place]"], unfollowed := true, recurses := true, apart := false }
def PolicyCalmSaid : Prop := policyCalmRow.holds Try.pinned (OpenSpec.ofChange policyCalmSpec)

/-- ITS FALSE NEIGHBOUR: 'it returns false'. Refute it at one input. -/
def policyCalmWrong : ChangeSpec := { name := "policyCalm", fn := fun _ => fun
  | [d1, d2] => { results := [.lit (.bool false)], args := [d1, d2] }
  | _ => none }
def PolicyCalmWrongFalsely : Prop := policyCalmRow.holds Try.pinned (OpenSpec.ofChange policyCalmWrong)

/-- 'clusterkernellaw39.PolicyMoves': WHATEVER THE INPUT: true; the input reads as it did. -/
def policyMovesSpec : ChangeSpec := { name := "policyMoves", fn := fun _ => fun
  | [d1, d2] => { results := [.lit (.bool true)], args := [d1, d2] }
  | _ => none }
def policyMovesRow : OpenClaim := { program := "ytkalkcgbecbgpaa", sum := "abba5b38c97294b24fc0f577f99c8b606b5402dd435376cba17b217b03f57da2", func := "clusterkernel/clusterkernellaw39.PolicyMoves", spec := "policyMoves", inPlace := ["slices.overlaps[clusterkernel/api.Place]"], unfollowed := true, recurses := true, apart := false }
def PolicyMovesSaid : Prop := policyMovesRow.holds Try.pinned (OpenSpec.ofChange policyMovesSpec)

/-- ITS FALSE NEIGHBOUR: 'it returns false'. Refute it at one input. -/
def policyMovesWrong : ChangeSpec := { name := "policyMoves", fn := fun _ => fun
  | [d1, d2] => { results := [.lit (.bool false)], args := [d1, d2] }
  | _ => none }
def PolicyMovesWrongFalsely : Prop := policyMovesRow.holds Try.pinned (OpenSpec.ofChange policyMovesWrong)

/- THE SECOND FORM. 'bulk': how many values and letters a reading holds, each counted each time it is reached (what is shared counts as often as it is met; a slice's spare places count too). A statement '..UptoSaid' is the law's where the arguments, and the package variables that the reading takes, are together of bulk at most 1048576: NARROWER than '..Said'. Prove '..Said' where nothing that the law and all that it calls make is longer than what came in: it says more and counts as full. Else prove '..UptoSaid'. A law counts once. -/
mutual
def uptoBulk {H : Type} : DataW H → Nat
  | .lit (.string bytes) => bytes.length + 1
  | .lit _ => 1
  | .nil => 1
  | .ptr d => uptoBulk d + 1
  | .slice elems spare => uptoBulkAll elems + uptoBulkAll spare + 1
  | .agg parts => uptoBulkAll parts + 1
  | .iface _ d => uptoBulk d + 1
  | .map entries => uptoBulkEntries entries + 1
  | .held _ => 1
def uptoBulkAll {H : Type} : List (DataW H) → Nat
  | [] => 0
  | d :: r => uptoBulk d + uptoBulkAll r
def uptoBulkEntries {H : Type} : List (Lit × DataW H) → Nat
  | [] => 0
  | x :: r => uptoBulkEntry x + uptoBulkEntries r
def uptoBulkEntry {H : Type} : Lit × DataW H → Nat
  | (.string bytes, d) => bytes.length + uptoBulk d + 1
  | (_, d) => uptoBulk d + 1
 end
def uptoSmall : (H : Type) → List (DataW H) → Bool := fun _ ds => decide (uptoBulkAll ds ≤ 1048576)
def OpenSpec.upto (s : _root_.Go.ChangeSpec) : _root_.Go.OpenSpec := { _root_.Go.OpenSpec.ofChange s with cond := some uptoSmall }

/-- 'clusterkernellaw39.PolicyDecides', WHERE WHAT IT READS IS OF BULK AT MOST 1048576: true; the input reads as it did. -/
def policyDecidesUptoRow : OpenClaim := { program := "ytkalkcgbecbgpaa", sum := "abba5b38c97294b24fc0f577f99c8b606b5402dd435376cba17b217b03f57da2", func := "clusterkernel/clusterkernellaw39.PolicyDecides", spec := "policyDecides", inPlace := ["slices.overlaps[clusterkernel/api.Place]"], unfollowed := true, recurses := true, apart := false, narrowed := true }
def PolicyDecidesUptoSaid : Prop := policyDecidesUptoRow.holds Try.pinned (OpenSpec.upto policyDecidesSpec)

/-- 'clusterkernellaw39.PolicySettles', WHERE WHAT IT READS IS OF BULK AT MOST 1048576: true; the input reads as it did. -/
def policySettlesUptoRow : OpenClaim := { program := "ytkalkcgbecbgpaa", sum := "abba5b38c97294b24fc0f577f99c8b606b5402dd435376cba17b217b03f57da2", func := "clusterkernel/clusterkernellaw39.PolicySettles", spec := "policySettles", inPlace := ["slices.overlaps[clusterkernel/api.Place]"], unfollowed := true, recurses := true, apart := false, narrowed := true }
def PolicySettlesUptoSaid : Prop := policySettlesUptoRow.holds Try.pinned (OpenSpec.upto policySettlesSpec)

/-- 'clusterkernellaw39.PolicyCalm', WHERE WHAT IT READS IS OF BULK AT MOST 1048576: true; the input reads as it did. -/
def policyCalmUptoRow : OpenClaim := { program := "ytkalkcgbecbgpaa", sum := "abba5b38c97294b24fc0f577f99c8b606b5402dd435376cba17b217b03f57da2", func := "clusterkernel/clusterkernellaw39.PolicyCalm", spec := "policyCalm", inPlace := ["slices.overlaps[clusterkernel/api.Place]"], unfollowed := true, recurses := true, apart := false, narrowed := true }
def PolicyCalmUptoSaid : Prop := policyCalmUptoRow.holds Try.pinned (OpenSpec.upto policyCalmSpec)

/-- 'clusterkernellaw39.PolicyMoves', WHERE WHAT IT READS IS OF BULK AT MOST 1048576: true; the input reads as it did. -/
def policyMovesUptoRow : OpenClaim := { program := "ytkalkcgbecbgpaa", sum := "abba5b38c97294b24fc0f577f99c8b606b5402dd435376cba17b217b03f57da2", func := "clusterkernel/clusterkernellaw39.PolicyMoves", spec := "policyMoves", inPlace := ["slices.overlaps[clusterkernel/api.Place]"], unfollowed := true, recurses := true, apart := false, narrowed := true }
def PolicyMovesUptoSaid : Prop := policyMovesUptoRow.holds Try.pinned (OpenSpec.upto policyMovesSpec)

end Rows
end Go.Proofs.Ytkalkcgbecbgpaa
