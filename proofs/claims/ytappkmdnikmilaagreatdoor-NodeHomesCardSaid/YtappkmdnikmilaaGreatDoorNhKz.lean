/- The statement NodeHomesSaid: for every input the law answers true and leaves its arguments as they were. Conditions: none. -/
import Derived.Test.YtappkmdnikmilaaGreatDoorNh2
import Derived.Test.YtappkmdnikmilaaGreatDoorAb8
import Derived.Test.YtappkmdnikmilaaGreatDoorRows
import Derived.Test.YtappkmdnikmilaaGreatDoorCards
import Derived.Test.YtappkmdnikmilaaGreatDoorTie
import Derived.ProofKit
import Derived.LaidMore
import Derived.Stop.Joined
import Derived.SevenTiedAt
namespace Go.Proofs.YtappkmdnikmilaaGreatDoor
set_option maxRecDepth 100000
set_option linter.unusedSimpArgs false
set_option linter.unusedVariables false
open Go.ChangeShapes Go.WideShapes Go.ChangeAt Go.RowKit Go.Abs Go.Abs.Nh
theorem Tryz.own : ownKnob Tryz.prog.godebug = none := by kernel_rfl
theorem Tryz.laidOut : laidOutB Tryz.prog = true := by kernel_rfl
theorem tu4 : Tryz.prog.underlying 4 = some .bool := by kernel_rfl
theorem jf_inPlace : (Rows.nodeHomesRow.inPlace == Tryz.prog.inPlace 3) = true := by kernel_rfl
theorem jf_unfol : (Rows.nodeHomesRow.unfollowed == Tryz.prog.unfollowed 3) = true := by kernel_rfl
theorem jf_recur : (Rows.nodeHomesRow.recurses == Tryz.prog.recurses 3) = true := by kernel_rfl
theorem jf_named : (Rows.nodeHomesRow.named == Tryz.prog.varsNamed 3) = true := by kernel_rfl
theorem jf_plK : (Rows.nodeHomesRow.plainKeys == Tryz.prog.plainKeys) = true := by kernel_rfl
theorem jf_stH : Tryz.prog.stopsHeard = true := by kernel_rfl
theorem jf_mayE : Tryz.prog.mayEnter = true := by kernel_rfl
theorem jf_lif : (Rows.nodeHomesRow.lifted == Tryz.prog.liftsFinal) = true := by kernel_rfl
theorem jf_mke : (Tryz.prog.make == some Rows.nodeHomesRow.make) = true := by kernel_rfl
theorem jf_mapsR : mapsRowed Tryz.prog = true := by kernel_rfl
theorem jf_closed : joinedFacts Tryz.prog 3 Tryz.f3 Rows.nodeHomesSpec Rows.nodeHomesRow = true := by
  unfold joinedFacts
  simp only [Bool.and_eq_true]
  and_intros
  · kernel_rfl
  · exact Tryz.laidOut
  · exact jf_mapsR
  · kernel_rfl
  · kernel_rfl
  · kernel_rfl
  · kernel_rfl
  · kernel_rfl
  · kernel_rfl
  · exact jf_inPlace
  · exact jf_unfol
  · exact jf_recur
  · exact jf_named
  · kernel_rfl
  · kernel_rfl
  · kernel_rfl
  · kernel_rfl
  · kernel_rfl
  · kernel_rfl
  · kernel_rfl
  · kernel_rfl
  · kernel_rfl
  · exact jf_plK
  · kernel_rfl
  · exact jf_stH
  · exact jf_mayE
  · exact jf_lif
  · exact jf_mke
  · kernel_rfl
  · kernel_rfl
  · kernel_rfl
  · kernel_rfl
theorem door_met (os : Os) (args : Array Value) : laidMetH Tryz.prog [("clusterkernel/code.forms", Rows.laid_clusterkernel_code_forms)] ((World.doorLaid Tryz.prog 4000 os).forCall (fun _ _ => 0) ⟨#[], args, []⟩).memory :=
  laidMetH_of_parts3 (fuel := 8) (laidMet_of_run' 8 (by kernel_rfl) (by kernel_rfl)) (by kernel_rfl) (by kernel_rfl)
set_option maxRecDepth 100000 in
theorem nodeHomes_lifted (os : Os) (started : os.Started) (H : Type) (enc : TypeId × Value → H) :
    ReturnsInHanded {} Tryz.checked os 3 .any (fun w args => (Rows.nodeHomesSpec.pre enc Tryz.prog Tryz.f3 [] false w args ∧ laidMetH Tryz.prog [("clusterkernel/code.forms", Rows.laid_clusterkernel_code_forms)] w) ∧ sizedMet enc Tryz.prog Tryz.f3 (OpenSpec.ofChange Rows.nodeHomesSpec) false w args) (Rows.nodeHomesSpec.post enc Tryz.prog Tryz.f3 false true false false) := by
  refine returnsInHanded_of_change_and (C := Tryz.checked) (X := fun w _ => laidMetH Tryz.prog [("clusterkernel/code.forms", Rows.laid_clusterkernel_code_forms)] w) (fun _ _ _ hh h => h.of_heap hh) Tryz.own started (by kernel_rfl) Tryz.func3
    (ChangeSpec.witness_shaped (enc := enc) (C := Tryz.checked) (os := os) (X := fun w _ => laidMetH Tryz.prog [("clusterkernel/code.forms", Rows.laid_clusterkernel_code_forms)] w) false (World.doorLaid Tryz.prog 4000 os) #[.slice none 0 0, .int .u64 0] 8 rfl (World.shaped_of_RefB (by kernel_rfl) (by kernel_rfl)) (by kernel_rfl) (by kernel_rfl) (by kernel_rfl) (door_met os _)) ?_
  intro W base args ds gs before hval hW _ _ _ _
  obtain ⟨p, q, hA, _⟩ := id hW
  obtain ⟨xs, hx, hr⟩ := TrodAll_rep (n := 9) _ _ _ _ (by rw [Tryz.params3]; exact List.all_eq_true.1 (by kernel_rfl)) (fun j t v h1 h2 => hval j t v (by simpa using h1) (by simpa using h2)) hA
  rw [Tryz.params3] at hx
  simp only [TyFs] at hx
  obtain ⟨_, _, rfl, ⟨x0, rfl, hx0⟩, _, _, rfl, ⟨x1, rfl, hx1⟩, rfl⟩ := hx
  obtain ⟨l, h1, rfl⟩ := shInts hx0
  obtain ⟨id, h2, rfl⟩ := shU64 hx1
  exact law_calls (fn := Tryz.f3) nho_ok Tryz.laidOut (by
      rw [Tryz.params3]
      intro t ht
      have h1 : ∀ t ∈ (Func.params Tryz.f3).toList, Tryz.prog.readableRec t = true := List.all_eq_true.1 (by kernel_rfl)
      have h2 : ∀ t ∈ (Func.params Tryz.f3).toList, decide (t < Tryz.prog.types.size) = true := List.all_eq_true.1 (by kernel_rfl)
      rw [Tryz.params3] at h1 h2
      exact ⟨h1 t ht, of_decide_eq_true (h2 t ht)⟩) rfl tu4 rfl (fun ds h => by
    match ds, h with
    | [d0, d1], _ => rfl) hW hr (nhoS_eq ⟨l, id, h1, h2⟩)
theorem nodeHomes_holds : Rows.NodeHomesSaid :=
  OpenClaim.holds_of_wide 3 Tryz.f3 rfl rfl rfl rfl rfl rfl rfl ⟨rfl, rfl, rfl, rfl, rfl⟩ rfl rfl rfl rfl rfl (by kernel_rfl) Tryz.func3 jf_closed
    (of_decide_eq_true (by kernel_rfl)) (by unfold Func.isWrapper; first | (rw [if_pos (by decide +kernel)]; kernel_rfl) | (rw [if_neg (by decide +kernel)]; exact ⟨rfl, rfl⟩))
    (fun os started H enc _ => nodeHomes_lifted os started H enc)
theorem nodeHomesCard_holds : Rows.NodeHomesCardSaid :=
  Claim7.holds_tied_plain_at .later [] [.widerDeep] true (true, "b474626a7d06247cf49df4dbda1681cb788325637fea2ba79f1015a8eb5345c0") false
    nodeHomes_holds (fun _ h => by cases h) (by kernel_rfl) (fun _ h => by cases h) nodeHomes_row_tie rfl ⟨rfl, rfl⟩ (by kernel_rfl) rfl
    (fun f fn hf hfn => by
      obtain rfl : f = 3 := Option.some.inj ((show Tryz.prog.funcNamed "clusterkernel/clusterkernellaw28.NodeHomes" = some 3 by kernel_rfl).symm.trans hf) |>.symm
      obtain rfl : fn = Tryz.f3 := (Option.some.inj (Tryz.func3.symm.trans hfn)).symm
      exact ⟨by kernel_rfl, fun j t ht => by
        rw [Tryz.params3] at ht
        have hm : t ∈ [22, 23] := by simpa using Array.mem_of_getElem? ht
        have hall : ([22, 23].all fun u => !Tryz.prog.wantsStandIn u) = true := by kernel_rfl
        exact (show Tryz.prog.wantsStandIn t = false by simpa using List.all_eq_true.1 hall t hm)⟩)
    (by kernel_rfl)

end Go.Proofs.YtappkmdnikmilaaGreatDoor
