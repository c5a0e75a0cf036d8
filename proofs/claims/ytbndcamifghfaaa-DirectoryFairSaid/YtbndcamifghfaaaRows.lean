/-
  No cell of these rows narrows 'for every input' (looked for: loops, veiled, ifaces, maps, wideKeys, modest, calm, conditions, laid).
  DERIVED. THE GIVEN ROWS OF THIS SEAT. 7 by the template 'for every input the law returns true; each argument reads behind the call as it read before'; 0 by the template 'total and deterministic' (their statements: YtbndcamifghfaaaTotals.lean).
  GIVEN WITH THE SEED: the statements are not yours to turn. If you find one false, say at which input.
  Laid BY PROGRAM, IN A SANDBOX (cutbox-rows.mjs): the forced cells as the released guide's own fill.sh prints them over the translation 1c82657282ea5ddb… (all of the seat's roots in one cut). By AI agents, Wed Nov 11 2026. No macro, syntax, notation, axiom, sorry.
-/
import Derived.Test.YtbndcamifghfaaaChecked
import GoSem.Claim
import GoSem.ClaimJoined
import GoSem.ClaimMapViews
import Derived.JoinedTies
import Derived.KernelRfl
namespace Go.Proofs.Ytbndcamifghfaaa
/- THE CELL 'sum', in the pinned program and in every row, IS THE sha256 OF THE DUMP (.gsa) THAT YtbndcamifghfaaaProg.lean LOADS. Nothing in Lean hashes anything: it is a label: what it is worth is what the hold of that sum in a sandbox is worth. -/
noncomputable def Try.pinned : Pinned := { name := "ytbndcamifghfaaa", sum := "1c82657282ea5ddbc7058d7ac29e4d5ccda01938b6d891700bdfec3269571b16", checked := Try.checked }
namespace Rows
def none {H : Type} : Left H := { results := [], args := [] }

/-- 'clusterkernellaw21.NetworkApart': WHATEVER THE INPUT: true; the input reads as it did. -/
def networkApartSpec : ChangeSpec := { name := "networkApart", fn := fun _ => fun
  | [d1, d2, d3, d4, d5] => { results := [.lit (.bool true)], args := [d1, d2, d3, d4, d5] }
  | _ => none }
def networkApartRow : OpenClaim := { program := "ytbndcamifghfaaa", sum := "1c82657282ea5ddbc7058d7ac29e4d5ccda01938b6d891700bdfec3269571b16", func := "clusterkernel/clusterkernellaw21.NetworkApart", spec := "networkApart", inPlace := ["slices.overlaps[clusterkernel/api.Link]"], unfollowed := true, recurses := true, plainKeys := false, apart := false }
def NetworkApartSaid : Prop := networkApartRow.holds Try.pinned (OpenSpec.ofChange networkApartSpec)

/-- ITS FALSE NEIGHBOUR: 'it returns false'. Refute it at one input. -/
def networkApartWrong : ChangeSpec := { name := "networkApart", fn := fun _ => fun
  | [d1, d2, d3, d4, d5] => { results := [.lit (.bool false)], args := [d1, d2, d3, d4, d5] }
  | _ => none }
def NetworkApartWrongFalsely : Prop := networkApartRow.holds Try.pinned (OpenSpec.ofChange networkApartWrong)

/-- 'clusterkernellaw21.NetworkOrder': WHATEVER THE INPUT: true; the input reads as it did. -/
def networkOrderSpec : ChangeSpec := { name := "networkOrder", fn := fun _ => fun
  | [d] => { results := [.lit (.bool true)], args := [d] }
  | _ => none }
def networkOrderRow : OpenClaim := { program := "ytbndcamifghfaaa", sum := "1c82657282ea5ddbc7058d7ac29e4d5ccda01938b6d891700bdfec3269571b16", func := "clusterkernel/clusterkernellaw21.NetworkOrder", spec := "networkOrder", inPlace := ["slices.overlaps[clusterkernel/api.Link]"], unfollowed := true, recurses := true, plainKeys := false, apart := false }
def NetworkOrderSaid : Prop := networkOrderRow.holds Try.pinned (OpenSpec.ofChange networkOrderSpec)

/-- ITS FALSE NEIGHBOUR: 'it returns false'. Refute it at one input. -/
def networkOrderWrong : ChangeSpec := { name := "networkOrder", fn := fun _ => fun
  | [d] => { results := [.lit (.bool false)], args := [d] }
  | _ => none }
def NetworkOrderWrongFalsely : Prop := networkOrderRow.holds Try.pinned (OpenSpec.ofChange networkOrderWrong)

/-- 'clusterkernellaw21.NetworkForgets': WHATEVER THE INPUT: true; the input reads as it did. -/
def networkForgetsSpec : ChangeSpec := { name := "networkForgets", fn := fun _ => fun
  | [d1, d2] => { results := [.lit (.bool true)], args := [d1, d2] }
  | _ => none }
def networkForgetsRow : OpenClaim := { program := "ytbndcamifghfaaa", sum := "1c82657282ea5ddbc7058d7ac29e4d5ccda01938b6d891700bdfec3269571b16", func := "clusterkernel/clusterkernellaw21.NetworkForgets", spec := "networkForgets", inPlace := ["slices.overlaps[clusterkernel/api.Link]"], unfollowed := true, recurses := true, plainKeys := false, apart := false }
def NetworkForgetsSaid : Prop := networkForgetsRow.holds Try.pinned (OpenSpec.ofChange networkForgetsSpec)

/-- ITS FALSE NEIGHBOUR: 'it returns false'. Refute it at one input. -/
def networkForgetsWrong : ChangeSpec := { name := "networkForgets", fn := fun _ => fun
  | [d1, d2] => { results := [.lit (.bool false)], args := [d1, d2] }
  | _ => none }
def NetworkForgetsWrongFalsely : Prop := networkForgetsRow.holds Try.pinned (OpenSpec.ofChange networkForgetsWrong)

/-- 'clusterkernellaw23.TokenPins': WHATEVER THE INPUT: true; the input reads as it did. -/
def tokenPinsSpec : ChangeSpec := { name := "tokenPins", fn := fun _ => fun
  | [d1, d2, d3, d4, d5, d6] => { results := [.lit (.bool true)], args := [d1, d2, d3, d4, d5, d6] }
  | _ => none }
def tokenPinsRow : OpenClaim := { program := "ytbndcamifghfaaa", sum := "1c82657282ea5ddbc7058d7ac29e4d5ccda01938b6d891700bdfec3269571b16", func := "clusterkernel/clusterkernellaw23.TokenPins", spec := "tokenPins", inPlace := ["slices.overlaps[clusterkernel/api.Token]"], unfollowed := true, recurses := true, plainKeys := false, apart := false }
def TokenPinsSaid : Prop := tokenPinsRow.holds Try.pinned (OpenSpec.ofChange tokenPinsSpec)

/-- ITS FALSE NEIGHBOUR: 'it returns false'. Refute it at one input. -/
def tokenPinsWrong : ChangeSpec := { name := "tokenPins", fn := fun _ => fun
  | [d1, d2, d3, d4, d5, d6] => { results := [.lit (.bool false)], args := [d1, d2, d3, d4, d5, d6] }
  | _ => none }
def TokenPinsWrongFalsely : Prop := tokenPinsRow.holds Try.pinned (OpenSpec.ofChange tokenPinsWrong)

/-- 'clusterkernellaw23.TokenGrid': WHATEVER THE INPUT: true; the input reads as it did. -/
def tokenGridSpec : ChangeSpec := { name := "tokenGrid", fn := fun _ => fun
  | [d] => { results := [.lit (.bool true)], args := [d] }
  | _ => none }
def tokenGridRow : OpenClaim := { program := "ytbndcamifghfaaa", sum := "1c82657282ea5ddbc7058d7ac29e4d5ccda01938b6d891700bdfec3269571b16", func := "clusterkernel/clusterkernellaw23.TokenGrid", spec := "tokenGrid", inPlace := ["slices.overlaps[clusterkernel/api.Token]"], unfollowed := true, recurses := true, plainKeys := false, apart := false }
def TokenGridSaid : Prop := tokenGridRow.holds Try.pinned (OpenSpec.ofChange tokenGridSpec)

/-- ITS FALSE NEIGHBOUR: 'it returns false'. Refute it at one input. -/
def tokenGridWrong : ChangeSpec := { name := "tokenGrid", fn := fun _ => fun
  | [d] => { results := [.lit (.bool false)], args := [d] }
  | _ => none }
def TokenGridWrongFalsely : Prop := tokenGridRow.holds Try.pinned (OpenSpec.ofChange tokenGridWrong)

/-- 'clusterkernellaw22.DirectorySafe': WHATEVER THE INPUT: true; the input reads as it did. -/
def directorySafeSpec : ChangeSpec := { name := "directorySafe", fn := fun _ => fun
  | [d] => { results := [.lit (.bool true)], args := [d] }
  | _ => none }
def directorySafeRow : OpenClaim := { program := "ytbndcamifghfaaa", sum := "1c82657282ea5ddbc7058d7ac29e4d5ccda01938b6d891700bdfec3269571b16", func := "clusterkernel/clusterkernellaw22.DirectorySafe", spec := "directorySafe", inPlace := ["slices.overlaps[clusterkernel/api.Entry]"], unfollowed := true, recurses := true, plainKeys := false, apart := false }
def DirectorySafeSaid : Prop := directorySafeRow.holds Try.pinned (OpenSpec.ofChange directorySafeSpec)

/-- ITS FALSE NEIGHBOUR: 'it returns false'. Refute it at one input. -/
def directorySafeWrong : ChangeSpec := { name := "directorySafe", fn := fun _ => fun
  | [d] => { results := [.lit (.bool false)], args := [d] }
  | _ => none }
def DirectorySafeWrongFalsely : Prop := directorySafeRow.holds Try.pinned (OpenSpec.ofChange directorySafeWrong)

/-- 'clusterkernellaw22.DirectoryFair': WHATEVER THE INPUT: true; the input reads as it did. -/
def directoryFairSpec : ChangeSpec := { name := "directoryFair", fn := fun _ => fun
  | [d] => { results := [.lit (.bool true)], args := [d] }
  | _ => none }
def directoryFairRow : OpenClaim := { program := "ytbndcamifghfaaa", sum := "1c82657282ea5ddbc7058d7ac29e4d5ccda01938b6d891700bdfec3269571b16", func := "clusterkernel/clusterkernellaw22.DirectoryFair", spec := "directoryFair", inPlace := ["slices.overlaps[clusterkernel/api.Entry]"], unfollowed := true, recurses := true, plainKeys := false, apart := false }
def DirectoryFairSaid : Prop := directoryFairRow.holds Try.pinned (OpenSpec.ofChange directoryFairSpec)

/-- ITS FALSE NEIGHBOUR: 'it returns false'. Refute it at one input. -/
def directoryFairWrong : ChangeSpec := { name := "directoryFair", fn := fun _ => fun
  | [d] => { results := [.lit (.bool false)], args := [d] }
  | _ => none }
def DirectoryFairWrongFalsely : Prop := directoryFairRow.holds Try.pinned (OpenSpec.ofChange directoryFairWrong)

/- THE SECOND FORM. 'bulk': how many values and letters a reading holds, each counted each time it is reached (what is shared counts as often as it is met; a slice's spare places count too). A statement '..UptoSaid' is the law's where the arguments, and the package variables that the reading takes, are together of bulk at most 1048576: NARROWER than '..Said'. Prove '..Said' where nothing that the law and all that it calls make is longer than what came in: it says more and counts as full. Else prove '..UptoSaid'. A law counts once. -/
mutual
def uptoBulk {H : Type} : DataW H → Nat
  | .lit (.string bytes) => bytes.length + 1
  | .lit _ => 1
  | .nil => 1
  | .ptr d => uptoBulk d + 1
  | .slice elems spare => uptoBulkAll elems + uptoBulkAll spare + 1
  | .agg parts => uptoBulkAll parts + 1
  | .iface _ d => uptoBulk d + 1
  | .map entries => uptoBulkEntries entries + 1
  | .held _ => 1
def uptoBulkAll {H : Type} : List (DataW H) → Nat
  | [] => 0
  | d :: r => uptoBulk d + uptoBulkAll r
def uptoBulkEntries {H : Type} : List (Lit × DataW H) → Nat
  | [] => 0
  | x :: r => uptoBulkEntry x + uptoBulkEntries r
def uptoBulkEntry {H : Type} : Lit × DataW H → Nat
  | (.string bytes, d) => bytes.length + uptoBulk d + 1
  | (_, d) => uptoBulk d + 1
 end
def uptoSmall : (H : Type) → List (DataW H) → Bool := fun _ ds => decide (uptoBulkAll ds ≤ 1048576)
def OpenSpec.upto (s : _root_.Go.ChangeSpec) : _root_.Go.OpenSpec := { _root_.Go.OpenSpec.ofChange s with cond := some uptoSmall }

/-- 'clusterkernellaw21.NetworkApart', WHERE WHAT IT READS IS OF BULK AT MOST 1048576: true; the input reads as it did. -/
def networkApartUptoRow : OpenClaim := { program := "ytbndcamifghfaaa", sum := "1c82657282ea5ddbc7058d7ac29e4d5ccda01938b6d891700bdfec3269571b16", func := "clusterkernel/clusterkernellaw21.NetworkApart", spec := "networkApart", inPlace := ["slices.overlaps[clusterkernel/api.Link]"], unfollowed := true, recurses := true, plainKeys := false, apart := false, narrowed := true }
def NetworkApartUptoSaid : Prop := networkApartUptoRow.holds Try.pinned (OpenSpec.upto networkApartSpec)

/-- 'clusterkernellaw21.NetworkOrder', WHERE WHAT IT READS IS OF BULK AT MOST 1048576: true; the input reads as it did. -/
def networkOrderUptoRow : OpenClaim := { program := "ytbndcamifghfaaa", sum := "1c82657282ea5ddbc7058d7ac29e4d5ccda01938b6d891700bdfec3269571b16", func := "clusterkernel/clusterkernellaw21.NetworkOrder", spec := "networkOrder", inPlace := ["slices.overlaps[clusterkernel/api.Link]"], unfollowed := true, recurses := true, plainKeys := false, apart := false, narrowed := true }
def NetworkOrderUptoSaid : Prop := networkOrderUptoRow.holds Try.pinned (OpenSpec.upto networkOrderSpec)

/-- 'clusterkernellaw21.NetworkForgets', WHERE WHAT IT READS IS OF BULK AT MOST 1048576: true; the input reads as it did. -/
def networkForgetsUptoRow : OpenClaim := { program := "ytbndcamifghfaaa", sum := "1c82657282ea5ddbc7058d7ac29e4d5ccda01938b6d891700bdfec3269571b16", func := "clusterkernel/clusterkernellaw21.NetworkForgets", spec := "networkForgets", inPlace := ["slices.overlaps[clusterkernel/api.Link]"], unfollowed := true, recurses := true, plainKeys := false, apart := false, narrowed := true }
def NetworkForgetsUptoSaid : Prop := networkForgetsUptoRow.holds Try.pinned (OpenSpec.upto networkForgetsSpec)

/-- 'clusterkernellaw23.TokenPins', WHERE WHAT IT READS IS OF BULK AT MOST 1048576: true; the input reads as it did. -/
def tokenPinsUptoRow : OpenClaim := { program := "ytbndcamifghfaaa", sum := "1c82657282ea5ddbc7058d7ac29e4d5ccda01938b6d891700bdfec3269571b16", func := "clusterkernel/clusterkernellaw23.TokenPins", spec := "tokenPins", inPlace := ["slices.overlaps[clusterkernel/api.Token]"], unfollowed := true, recurses := true, plainKeys := false, apart := false, narrowed := true }
def TokenPinsUptoSaid : Prop := tokenPinsUptoRow.holds Try.pinned (OpenSpec.upto tokenPinsSpec)

/-- 'clusterkernellaw23.TokenGrid', WHERE WHAT IT READS IS OF BULK AT MOST 1048576: true; the input reads as it did. -/
def tokenGridUptoRow : OpenClaim := { program := "ytbndcamifghfaaa", sum := "1c82657282ea5ddbc7058d7ac29e4d5ccda01938b6d891700bdfec3269571b16", func := "clusterkernel/clusterkernellaw23.TokenGrid", spec := "tokenGrid", inPlace := ["slices.overlaps[clusterkernel/api.Token]"], unfollowed := true, recurses := true, plainKeys := false, apart := false, narrowed := true }
def TokenGridUptoSaid : Prop := tokenGridUptoRow.holds Try.pinned (OpenSpec.upto tokenGridSpec)

/-- 'clusterkernellaw22.DirectorySafe', WHERE WHAT IT READS IS OF BULK AT MOST 1048576: true; the input reads as it did. -/
def directorySafeUptoRow : OpenClaim := { program := "ytbndcamifghfaaa", sum := "1c82657282ea5ddbc7058d7ac29e4d5ccda01938b6d891700bdfec3269571b16", func := "clusterkernel/clusterkernellaw22.DirectorySafe", spec := "directorySafe", inPlace := ["slices.overlaps[clusterkernel/api.Entry]"], unfollowed := true, recurses := true, plainKeys := false, apart := false, narrowed := true }
def DirectorySafeUptoSaid : Prop := directorySafeUptoRow.holds Try.pinned (OpenSpec.upto directorySafeSpec)

/-- 'clusterkernellaw22.DirectoryFair', WHERE WHAT IT READS IS OF BULK AT MOST 1048576: true; the input reads as it did. -/
def directoryFairUptoRow : OpenClaim := { program := "ytbndcamifghfaaa", sum := "1c82657282ea5ddbc7058d7ac29e4d5ccda01938b6d891700bdfec3269571b16", func := "clusterkernel/clusterkernellaw22.DirectoryFair", spec := "directoryFair", inPlace := ["slices.overlaps[clusterkernel/api.Entry]"], unfollowed := true, recurses := true, plainKeys := false, apart := false, narrowed := true }
def DirectoryFairUptoSaid : Prop := directoryFairUptoRow.holds Try.pinned (OpenSpec.upto directoryFairSpec)

end Rows
end Go.Proofs.Ytbndcamifghfaaa
