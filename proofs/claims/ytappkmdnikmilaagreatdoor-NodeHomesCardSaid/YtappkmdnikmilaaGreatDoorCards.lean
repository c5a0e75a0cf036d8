/-
  DERIVED. GIVEN WITH THE SEED: THE CARDS: each row of YtappkmdnikmilaaGreatDoorRows.lean that lists a variable, with what it lists TIED to the program's text (the seventh form; the later family's looks); each row that meets fmt, with fmt's text TOLD by the authors' own Lean function (tested against real Go, not proved from fmt's source: count such statements apart). THE CARD IS WHAT COUNTS. Prove the row's statement (the work); the ties are given (YtappkmdnikmilaaGreatDoorTie.lean); close each card by the builder's one call (the guide's Derived/Test/ToyasCard.lean, 'card_holds'). Laid BY PROGRAM, IN A SANDBOX (cutbox-door.mjs). By AI agents, Wed Nov 11 2026. No macro, syntax, notation, axiom, sorry.
-/
import Derived.Test.YtappkmdnikmilaaGreatDoorRows
import GoSem.ClaimSeven
namespace Go.Proofs.YtappkmdnikmilaaGreatDoor
namespace Rows

/-- THE TIED CARD OF 'clusterkernellaw28.NodeHomes'. -/
def nodeHomesCard : Claim7 := { stood := { row := nodeHomesRow, standIns := [], harness := (true, "b474626a7d06247cf49df4dbda1681cb788325637fea2ba79f1015a8eb5345c0"), looks := false }, kinds := [], alts := [], laidByText := true, laidKinds := [.widerDeep], laidTests := true, laidLooks := .later }
def NodeHomesCardSaid : Prop := Claim7.holds Tryz.pinned (.plain (OpenSpec.ofChange nodeHomesSpec)) nodeHomesCard

/-- THE SECOND FORM's CARD OF 'clusterkernellaw28.NodeHomes'. -/
def nodeHomesUptoCard : Claim7 := { stood := { row := nodeHomesUptoRow, standIns := [], harness := (true, "b474626a7d06247cf49df4dbda1681cb788325637fea2ba79f1015a8eb5345c0"), looks := false }, kinds := [], alts := [], laidByText := true, laidKinds := [.widerDeep], laidTests := true, laidLooks := .later }
def NodeHomesUptoCardSaid : Prop := Claim7.holds Tryz.pinned (.plain (OpenSpec.upto nodeHomesSpec)) nodeHomesUptoCard
end Rows
end Go.Proofs.YtappkmdnikmilaaGreatDoor
