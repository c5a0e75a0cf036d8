/-
  No cell of these rows narrows 'for every input' (looked for: loops, veiled, ifaces, maps, wideKeys, modest, calm, conditions, laid).
  DERIVED. THE GIVEN ROWS OF THIS SEAT. 3 by the template 'for every input the law returns true; each argument reads behind the call as it read before'; 0 by the template 'total and deterministic' (their statements: YtphclapfniepoaaTotals.lean).
  GIVEN WITH THE SEED: the statements are not yours to turn. If you find one false, say at which input.
  Laid BY PROGRAM, IN A SANDBOX (cutbox-rows.mjs): the forced cells as the released guide's own fill.sh prints them over the translation 2e457559e7a6f308… (all of the seat's roots in one cut). By AI agents, Wed Nov 11 2026. No macro, syntax, notation, axiom, sorry.
-/
import Derived.Test.YtphclapfniepoaaChecked
import GoSem.Claim
import GoSem.ClaimJoined
import GoSem.ClaimMapViews
import Derived.JoinedTies
import Derived.KernelRfl
namespace Go.Proofs.Ytphclapfniepoaa
/- THE CELL 'sum', in the pinned program and in every row, IS THE sha256 OF THE DUMP (.gsa) THAT YtphclapfniepoaaProg.lean LOADS. Nothing in Lean hashes anything: it is a label: what it is worth is what the hold of that sum in a sandbox is worth. -/
noncomputable def Try.pinned : Pinned := { name := "ytphclapfniepoaa", sum := "2e457559e7a6f30854e7afb61e226ef2993dba1debf3abaa205da35691f50b43", checked := Try.checked }
namespace Rows
def none {H : Type} : Left H := { results := [], args := [] }

/-- 'clusterkernellaw21.NetworkApart': WHATEVER THE INPUT: true; the input reads as it did. -/
def networkApartSpec : ChangeSpec := { name := "networkApart", fn := fun _ => fun
  | [d1, d2, d3, d4, d5] => { results := [.lit (.bool true)], args := [d1, d2, d3, d4, d5] }
  | _ => none }
def networkApartRow : OpenClaim := { program := "ytphclapfniepoaa", sum := "2e457559e7a6f30854e7afb61e226ef2993dba1debf3abaa205da35691f50b43", func := "clusterkernel/clusterkernellaw21.NetworkApart", spec := "networkApart", inPlace := ["slices.overlaps[clusterkernel/api.Link]"], unfollowed := true, recurses := true, plainKeys := false, apart := false }
def NetworkApartSaid : Prop := networkApartRow.holds Try.pinned (OpenSpec.ofChange networkApartSpec)

/-- ITS FALSE NEIGHBOUR: 'it returns false'. Refute it at one input. -/
def networkApartWrong : ChangeSpec := { name := "networkApart", fn := fun _ => fun
  | [d1, d2, d3, d4, d5] => { results := [.lit (.bool false)], args := [d1, d2, d3, d4, d5] }
  | _ => none }
def NetworkApartWrongFalsely : Prop := networkApartRow.holds Try.pinned (OpenSpec.ofChange networkApartWrong)

/-- 'clusterkernellaw21.NetworkOrder': WHATEVER THE INPUT: true; the input reads as it did. -/
def networkOrderSpec : ChangeSpec := { name := "networkOrder", fn := fun _ => fun
  | [d] => { results := [.lit (.bool true)], args := [d] }
  | _ => none }
def networkOrderRow : OpenClaim := { program := "ytphclapfniepoaa", sum := "2e457559e7a6f30854e7afb61e226ef2993dba1debf3abaa205da35691f50b43", func := "clusterkernel/clusterkernellaw21.NetworkOrder", spec := "networkOrder", inPlace := ["slices.overlaps[clusterkernel/api.Link]"], unfollowed := true, recurses := true, plainKeys := false, apart := false }
def NetworkOrderSaid : Prop := networkOrderRow.holds Try.pinned (OpenSpec.ofChange networkOrderSpec)

/-- ITS FALSE NEIGHBOUR: 'it returns false'. Refute it at one input. -/
def networkOrderWrong : ChangeSpec := { name := "networkOrder", fn := fun _ => fun
  | [d] => { results := [.lit (.bool false)], args := [d] }
  | _ => none }
def NetworkOrderWrongFalsely : Prop := networkOrderRow.holds Try.pinned (OpenSpec.ofChange networkOrderWrong)

/-- 'clusterkernellaw21.NetworkForgets': WHATEVER THE INPUT: true; the input reads as it did. -/
def networkForgetsSpec : ChangeSpec := { name := "networkForgets", fn := fun _ => fun
  | [d1, d2] => { results := [.lit (.bool true)], args := [d1, d2] }
  | _ => none }
def networkForgetsRow : OpenClaim := { program := "ytphclapfniepoaa", sum := "2e457559e7a6f30854e7afb61e226ef2993dba1debf3abaa205da35691f50b43", func := "clusterkernel/clusterkernellaw21.NetworkForgets", spec := "networkForgets", inPlace := ["slices.overlaps[clusterkernel/api.Link]"], unfollowed := true, recurses := true, plainKeys := false, apart := false }
def NetworkForgetsSaid : Prop := networkForgetsRow.holds Try.pinned (OpenSpec.ofChange networkForgetsSpec)

/-- ITS FALSE NEIGHBOUR: 'it returns false'. Refute it at one input. -/
def networkForgetsWrong : ChangeSpec := { name := "networkForgets", fn := fun _ => fun
  | [d1, d2] => { results := [.lit (.bool false)], args := [d1, d2] }
  | _ => none }
def NetworkForgetsWrongFalsely : Prop := networkForgetsRow.holds Try.pinned (OpenSpec.ofChange networkForgetsWrong)

/- THE SECOND FORM. 'bulk': how many values and letters a reading holds, each counted each time it is reached (what is shared counts as often as it is met; a slice's spare places count too). A statement '..UptoSaid' is the law's where the arguments, and the package variables that the reading takes, are together of bulk at most 1048576: NARROWER than '..Said'. Prove '..Said' where nothing that the law and all that it calls make is longer than what came in: it says more and counts as full. Else prove '..UptoSaid'. A law counts once. -/
mutual
def uptoBulk {H : Type} : DataW H → Nat
  | .lit (.string bytes) => bytes.length + 1
  | .lit _ => 1
  | .nil => 1
  | .ptr d => uptoBulk d + 1
  | .slice elems spare => uptoBulkAll elems + uptoBulkAll spare + 1
  | .agg parts => uptoBulkAll parts + 1
  | .iface _ d => uptoBulk d + 1
  | .map entries => uptoBulkEntries entries + 1
  | .held _ => 1
def uptoBulkAll {H : Type} : List (DataW H) → Nat
  | [] => 0
  | d :: r => uptoBulk d + uptoBulkAll r
def uptoBulkEntries {H : Type} : List (Lit × DataW H) → Nat
  | [] => 0
  | x :: r => uptoBulkEntry x + uptoBulkEntries r
def uptoBulkEntry {H : Type} : Lit × DataW H → Nat
  | (.string bytes, d) => bytes.length + uptoBulk d + 1
  | (_, d) => uptoBulk d + 1
 end
def uptoSmall : (H : Type) → List (DataW H) → Bool := fun _ ds => decide (uptoBulkAll ds ≤ 1048576)
def OpenSpec.upto (s : _root_.Go.ChangeSpec) : _root_.Go.OpenSpec := { _root_.Go.OpenSpec.ofChange s with cond := some uptoSmall }

/-- 'clusterkernellaw21.NetworkApart', WHERE WHAT IT READS IS OF BULK AT MOST 1048576: true; the input reads as it did. -/
def networkApartUptoRow : OpenClaim := { program := "ytphclapfniepoaa", sum := "2e457559e7a6f30854e7afb61e226ef2993dba1debf3abaa205da35691f50b43", func := "clusterkernel/clusterkernellaw21.NetworkApart", spec := "networkApart", inPlace := ["slices.overlaps[clusterkernel/api.Link]"], unfollowed := true, recurses := true, plainKeys := false, apart := false, narrowed := true }
def NetworkApartUptoSaid : Prop := networkApartUptoRow.holds Try.pinned (OpenSpec.upto networkApartSpec)

/-- 'clusterkernellaw21.NetworkOrder', WHERE WHAT IT READS IS OF BULK AT MOST 1048576: true; the input reads as it did. -/
def networkOrderUptoRow : OpenClaim := { program := "ytphclapfniepoaa", sum := "2e457559e7a6f30854e7afb61e226ef2993dba1debf3abaa205da35691f50b43", func := "clusterkernel/clusterkernellaw21.NetworkOrder", spec := "networkOrder", inPlace := ["slices.overlaps[clusterkernel/api.Link]"], unfollowed := true, recurses := true, plainKeys := false, apart := false, narrowed := true }
def NetworkOrderUptoSaid : Prop := networkOrderUptoRow.holds Try.pinned (OpenSpec.upto networkOrderSpec)

/-- 'clusterkernellaw21.NetworkForgets', WHERE WHAT IT READS IS OF BULK AT MOST 1048576: true; the input reads as it did. -/
def networkForgetsUptoRow : OpenClaim := { program := "ytphclapfniepoaa", sum := "2e457559e7a6f30854e7afb61e226ef2993dba1debf3abaa205da35691f50b43", func := "clusterkernel/clusterkernellaw21.NetworkForgets", spec := "networkForgets", inPlace := ["slices.overlaps[clusterkernel/api.Link]"], unfollowed := true, recurses := true, plainKeys := false, apart := false, narrowed := true }
def NetworkForgetsUptoSaid : Prop := networkForgetsUptoRow.holds Try.pinned (OpenSpec.upto networkForgetsSpec)

end Rows
end Go.Proofs.Ytphclapfniepoaa
