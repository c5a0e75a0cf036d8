/-
  No cell of these rows narrows 'for every input' (looked for: loops, veiled, ifaces, maps, wideKeys, modest, calm, conditions, laid).
  DERIVED. THE GIVEN ROWS OF THIS SEAT. 5 by the template 'for every input the law returns true; each argument reads behind the call as it read before'; 0 by the template 'total and deterministic' (their statements: YtldfmgiglcajcaaTotals.lean).
  GIVEN WITH THE SEED: the statements are not yours to turn. If you find one false, say at which input.
  Laid BY PROGRAM, IN A SANDBOX (cutbox-rows.mjs): the forced cells as the released guide's own fill.sh prints them over the translation 77f0309e121cd62d… (all of the seat's roots in one cut). By AI agents, Wed Nov 11 2026. No macro, syntax, notation, axiom, sorry.
-/
import Derived.Test.YtldfmgiglcajcaaChecked
import GoSem.Claim
import GoSem.ClaimJoined
import GoSem.ClaimMapViews
import Derived.JoinedTies
import Derived.KernelRfl
namespace Go.Proofs.Ytldfmgiglcajcaa
/- THE CELL 'sum', in the pinned program and in every row, IS THE sha256 OF THE DUMP (.gsa) THAT YtldfmgiglcajcaaProg.lean LOADS. Nothing in Lean hashes anything: it is a label: what it is worth is what the hold of that sum in a sandbox is worth. -/
noncomputable def Try.pinned : Pinned := { name := "ytldfmgiglcajcaa", sum := "77f0309e121cd62df8b6dfd71528669594e3f153aa3fd646416c138976252290", checked := Try.checked }
namespace Rows
def none {H : Type} : Left H := { results := [], args := [] }

/-- 'clusterkernellaw05.CpuSteps': WHATEVER THE INPUT: true; the input reads as it did. -/
def cpuStepsSpec : ChangeSpec := { name := "cpuSteps", fn := fun _ => fun
  | [d1, d2, d3, d4] => { results := [.lit (.bool true)], args := [d1, d2, d3, d4] }
  | _ => none }
def cpuStepsRow : OpenClaim := { program := "ytldfmgiglcajcaa", sum := "77f0309e121cd62df8b6dfd71528669594e3f153aa3fd646416c138976252290", func := "clusterkernel/clusterkernellaw05.CpuSteps", spec := "cpuSteps", unfollowed := true, recurses := true, apart := false }
def CpuStepsSaid : Prop := cpuStepsRow.holds Try.pinned (OpenSpec.ofChange cpuStepsSpec)

/-- ITS FALSE NEIGHBOUR: 'it returns false'. Refute it at one input. -/
def cpuStepsWrong : ChangeSpec := { name := "cpuSteps", fn := fun _ => fun
  | [d1, d2, d3, d4] => { results := [.lit (.bool false)], args := [d1, d2, d3, d4] }
  | _ => none }
def CpuStepsWrongFalsely : Prop := cpuStepsRow.holds Try.pinned (OpenSpec.ofChange cpuStepsWrong)

/-- 'clusterkernellaw05.CpuChanges': WHATEVER THE INPUT: true; the input reads as it did. -/
def cpuChangesSpec : ChangeSpec := { name := "cpuChanges", fn := fun _ => fun
  | [d1, d2, d3] => { results := [.lit (.bool true)], args := [d1, d2, d3] }
  | _ => none }
def cpuChangesRow : OpenClaim := { program := "ytldfmgiglcajcaa", sum := "77f0309e121cd62df8b6dfd71528669594e3f153aa3fd646416c138976252290", func := "clusterkernel/clusterkernellaw05.CpuChanges", spec := "cpuChanges", unfollowed := true, recurses := true, apart := false }
def CpuChangesSaid : Prop := cpuChangesRow.holds Try.pinned (OpenSpec.ofChange cpuChangesSpec)

/-- ITS FALSE NEIGHBOUR: 'it returns false'. Refute it at one input. -/
def cpuChangesWrong : ChangeSpec := { name := "cpuChanges", fn := fun _ => fun
  | [d1, d2, d3] => { results := [.lit (.bool false)], args := [d1, d2, d3] }
  | _ => none }
def CpuChangesWrongFalsely : Prop := cpuChangesRow.holds Try.pinned (OpenSpec.ofChange cpuChangesWrong)

/-- 'clusterkernellaw05.CpuSums': WHATEVER THE INPUT: true; the input reads as it did. -/
def cpuSumsSpec : ChangeSpec := { name := "cpuSums", fn := fun _ => fun
  | [d] => { results := [.lit (.bool true)], args := [d] }
  | _ => none }
def cpuSumsRow : OpenClaim := { program := "ytldfmgiglcajcaa", sum := "77f0309e121cd62df8b6dfd71528669594e3f153aa3fd646416c138976252290", func := "clusterkernel/clusterkernellaw05.CpuSums", spec := "cpuSums", unfollowed := true, recurses := true, apart := false }
def CpuSumsSaid : Prop := cpuSumsRow.holds Try.pinned (OpenSpec.ofChange cpuSumsSpec)

/-- ITS FALSE NEIGHBOUR: 'it returns false'. Refute it at one input. -/
def cpuSumsWrong : ChangeSpec := { name := "cpuSums", fn := fun _ => fun
  | [d] => { results := [.lit (.bool false)], args := [d] }
  | _ => none }
def CpuSumsWrongFalsely : Prop := cpuSumsRow.holds Try.pinned (OpenSpec.ofChange cpuSumsWrong)

/-- 'clusterkernellaw05.CpuAlgebra': WHATEVER THE INPUT: true; the input reads as it did. -/
def cpuAlgebraSpec : ChangeSpec := { name := "cpuAlgebra", fn := fun _ => fun
  | [d1, d2] => { results := [.lit (.bool true)], args := [d1, d2] }
  | _ => none }
def cpuAlgebraRow : OpenClaim := { program := "ytldfmgiglcajcaa", sum := "77f0309e121cd62df8b6dfd71528669594e3f153aa3fd646416c138976252290", func := "clusterkernel/clusterkernellaw05.CpuAlgebra", spec := "cpuAlgebra", unfollowed := true, recurses := true, apart := false }
def CpuAlgebraSaid : Prop := cpuAlgebraRow.holds Try.pinned (OpenSpec.ofChange cpuAlgebraSpec)

/-- ITS FALSE NEIGHBOUR: 'it returns false'. Refute it at one input. -/
def cpuAlgebraWrong : ChangeSpec := { name := "cpuAlgebra", fn := fun _ => fun
  | [d1, d2] => { results := [.lit (.bool false)], args := [d1, d2] }
  | _ => none }
def CpuAlgebraWrongFalsely : Prop := cpuAlgebraRow.holds Try.pinned (OpenSpec.ofChange cpuAlgebraWrong)

/-- 'clusterkernellaw05.CpuReturns': WHATEVER THE INPUT: true; the input reads as it did. -/
def cpuReturnsSpec : ChangeSpec := { name := "cpuReturns", fn := fun _ => fun
  | [d1, d2, d3, d4] => { results := [.lit (.bool true)], args := [d1, d2, d3, d4] }
  | _ => none }
def cpuReturnsRow : OpenClaim := { program := "ytldfmgiglcajcaa", sum := "77f0309e121cd62df8b6dfd71528669594e3f153aa3fd646416c138976252290", func := "clusterkernel/clusterkernellaw05.CpuReturns", spec := "cpuReturns", unfollowed := true, recurses := true, apart := false }
def CpuReturnsSaid : Prop := cpuReturnsRow.holds Try.pinned (OpenSpec.ofChange cpuReturnsSpec)

/-- ITS FALSE NEIGHBOUR: 'it returns false'. Refute it at one input. -/
def cpuReturnsWrong : ChangeSpec := { name := "cpuReturns", fn := fun _ => fun
  | [d1, d2, d3, d4] => { results := [.lit (.bool false)], args := [d1, d2, d3, d4] }
  | _ => none }
def CpuReturnsWrongFalsely : Prop := cpuReturnsRow.holds Try.pinned (OpenSpec.ofChange cpuReturnsWrong)

/- THE SECOND FORM. 'bulk': how many values and letters a reading holds, each counted each time it is reached (what is shared counts as often as it is met; a slice's spare places count too). A statement '..UptoSaid' is the law's where the arguments, and the package variables that the reading takes, are together of bulk at most 1048576: NARROWER than '..Said'. Prove '..Said' where nothing that the law and all that it calls make is longer than what came in: it says more and counts as full. Else prove '..UptoSaid'. A law counts once. -/
mutual
def uptoBulk {H : Type} : DataW H → Nat
  | .lit (.string bytes) => bytes.length + 1
  | .lit _ => 1
  | .nil => 1
  | .ptr d => uptoBulk d + 1
  | .slice elems spare => uptoBulkAll elems + uptoBulkAll spare + 1
  | .agg parts => uptoBulkAll parts + 1
  | .iface _ d => uptoBulk d + 1
  | .map entries => uptoBulkEntries entries + 1
  | .held _ => 1
def uptoBulkAll {H : Type} : List (DataW H) → Nat
  | [] => 0
  | d :: r => uptoBulk d + uptoBulkAll r
def uptoBulkEntries {H : Type} : List (Lit × DataW H) → Nat
  | [] => 0
  | x :: r => uptoBulkEntry x + uptoBulkEntries r
def uptoBulkEntry {H : Type} : Lit × DataW H → Nat
  | (.string bytes, d) => bytes.length + uptoBulk d + 1
  | (_, d) => uptoBulk d + 1
 end
def uptoSmall : (H : Type) → List (DataW H) → Bool := fun _ ds => decide (uptoBulkAll ds ≤ 1048576)
def OpenSpec.upto (s : _root_.Go.ChangeSpec) : _root_.Go.OpenSpec := { _root_.Go.OpenSpec.ofChange s with cond := some uptoSmall }

/-- 'clusterkernellaw05.CpuSteps', WHERE WHAT IT READS IS OF BULK AT MOST 1048576: true; the input reads as it did. -/
def cpuStepsUptoRow : OpenClaim := { program := "ytldfmgiglcajcaa", sum := "77f0309e121cd62df8b6dfd71528669594e3f153aa3fd646416c138976252290", func := "clusterkernel/clusterkernellaw05.CpuSteps", spec := "cpuSteps", unfollowed := true, recurses := true, apart := false, narrowed := true }
def CpuStepsUptoSaid : Prop := cpuStepsUptoRow.holds Try.pinned (OpenSpec.upto cpuStepsSpec)

/-- 'clusterkernellaw05.CpuChanges', WHERE WHAT IT READS IS OF BULK AT MOST 1048576: true; the input reads as it did. -/
def cpuChangesUptoRow : OpenClaim := { program := "ytldfmgiglcajcaa", sum := "77f0309e121cd62df8b6dfd71528669594e3f153aa3fd646416c138976252290", func := "clusterkernel/clusterkernellaw05.CpuChanges", spec := "cpuChanges", unfollowed := true, recurses := true, apart := false, narrowed := true }
def CpuChangesUptoSaid : Prop := cpuChangesUptoRow.holds Try.pinned (OpenSpec.upto cpuChangesSpec)

/-- 'clusterkernellaw05.CpuSums', WHERE WHAT IT READS IS OF BULK AT MOST 1048576: true; the input reads as it did. -/
def cpuSumsUptoRow : OpenClaim := { program := "ytldfmgiglcajcaa", sum := "77f0309e121cd62df8b6dfd71528669594e3f153aa3fd646416c138976252290", func := "clusterkernel/clusterkernellaw05.CpuSums", spec := "cpuSums", unfollowed := true, recurses := true, apart := false, narrowed := true }
def CpuSumsUptoSaid : Prop := cpuSumsUptoRow.holds Try.pinned (OpenSpec.upto cpuSumsSpec)

/-- 'clusterkernellaw05.CpuAlgebra', WHERE WHAT IT READS IS OF BULK AT MOST 1048576: true; the input reads as it did. -/
def cpuAlgebraUptoRow : OpenClaim := { program := "ytldfmgiglcajcaa", sum := "77f0309e121cd62df8b6dfd71528669594e3f153aa3fd646416c138976252290", func := "clusterkernel/clusterkernellaw05.CpuAlgebra", spec := "cpuAlgebra", unfollowed := true, recurses := true, apart := false, narrowed := true }
def CpuAlgebraUptoSaid : Prop := cpuAlgebraUptoRow.holds Try.pinned (OpenSpec.upto cpuAlgebraSpec)

/-- 'clusterkernellaw05.CpuReturns', WHERE WHAT IT READS IS OF BULK AT MOST 1048576: true; the input reads as it did. -/
def cpuReturnsUptoRow : OpenClaim := { program := "ytldfmgiglcajcaa", sum := "77f0309e121cd62df8b6dfd71528669594e3f153aa3fd646416c138976252290", func := "clusterkernel/clusterkernellaw05.CpuReturns", spec := "cpuReturns", unfollowed := true, recurses := true, apart := false, narrowed := true }
def CpuReturnsUptoSaid : Prop := cpuReturnsUptoRow.holds Try.pinned (OpenSpec.upto cpuReturnsSpec)

end Rows
end Go.Proofs.Ytldfmgiglcajcaa
