/- The statement DirectoryMovesSaid: for every input the law answers true and leaves its arguments as they were. Conditions: none. -/
import Derived.Test.YtlakgienobmpbaaGreatNz9
import Derived.Test.YtlakgienobmpbaaGreatAb8
import Derived.Test.YtlakgienobmpbaaGreatRows
namespace Go.Proofs.YtlakgienobmpbaaGreat
set_option maxRecDepth 100000
set_option linter.unusedSimpArgs false
set_option linter.unusedVariables false
open Go.ChangeShapes Go.WideShapes Go.ChangeAt Go.RowKit Go.Abs Go.Abs.Nz
theorem Tryz.own : ownKnob Tryz.prog.godebug = none := by kernel_rfl
theorem Tryz.laidOut : laidOutB Tryz.prog = true := by kernel_rfl
theorem tu4 : Tryz.prog.underlying 4 = some .bool := by kernel_rfl
theorem jf_inPlace : (Rows.directoryMovesRow.inPlace == Tryz.prog.inPlace 4) = true := by kernel_rfl
theorem jf_unfol : (Rows.directoryMovesRow.unfollowed == Tryz.prog.unfollowed 4) = true := by kernel_rfl
theorem jf_recur : (Rows.directoryMovesRow.recurses == Tryz.prog.recurses 4) = true := by kernel_rfl
theorem jf_named : (Rows.directoryMovesRow.named == Tryz.prog.varsNamed 4) = true := by kernel_rfl
theorem jf_plK : (Rows.directoryMovesRow.plainKeys == Tryz.prog.plainKeys) = true := by kernel_rfl
theorem jf_stH : Tryz.prog.stopsHeard = true := by kernel_rfl
theorem jf_mayE : Tryz.prog.mayEnter = true := by kernel_rfl
theorem jf_lif : (Rows.directoryMovesRow.lifted == Tryz.prog.liftsFinal) = true := by kernel_rfl
theorem jf_mke : (Tryz.prog.make == some Rows.directoryMovesRow.make) = true := by kernel_rfl
theorem jf_mapsR : mapsRowed Tryz.prog = true := by kernel_rfl
theorem jf_closed : joinedFacts Tryz.prog 4 Tryz.f4 Rows.directoryMovesSpec Rows.directoryMovesRow = true := by
  unfold joinedFacts
  simp only [Bool.and_eq_true]
  and_intros
  · kernel_rfl
  · exact Tryz.laidOut
  · exact jf_mapsR
  · kernel_rfl
  · kernel_rfl
  · kernel_rfl
  · kernel_rfl
  · kernel_rfl
  · kernel_rfl
  · exact jf_inPlace
  · exact jf_unfol
  · exact jf_recur
  · exact jf_named
  · kernel_rfl
  · kernel_rfl
  · kernel_rfl
  · kernel_rfl
  · kernel_rfl
  · kernel_rfl
  · kernel_rfl
  · kernel_rfl
  · kernel_rfl
  · exact jf_plK
  · kernel_rfl
  · exact jf_stH
  · exact jf_mayE
  · exact jf_lif
  · exact jf_mke
  · kernel_rfl
  · kernel_rfl
  · kernel_rfl
  · kernel_rfl
set_option maxRecDepth 100000 in
theorem directoryMoves_lifted (os : Os) (started : os.Started) (H : Type) (enc : TypeId × Value → H) :
    ReturnsInHanded {} Tryz.checked os 4 .any (Rows.directoryMovesSpec.pre6 enc Tryz.prog Tryz.f4 Rows.directoryMovesRow.domain false) (Rows.directoryMovesSpec.post enc Tryz.prog Tryz.f4 false true false false) := by
  refine returnsInHanded_of_change (C := Tryz.checked) Tryz.own started (by kernel_rfl) Tryz.func4
    (ChangeSpec.witness6 (enc := enc) (C := Tryz.checked) false ⟨#[], #[.agg #[.int .i64 0, .slice none 0 0], .slice none 0 0, .int .u64 0, .int .i64 0, .int .i64 0, .agg #[.int .u64 0, .int .i64 0, .int .i64 0, .int .i64 0, .int .u64 0, .slice none 0 0, .slice none 0 0, .slice none 0 0, .int .i64 0, .int .i64 0, .int .i64 0, .int .i64 0, .int .i64 0, .int .i64 0, .int .i64 0, .int .i64 0, .int .i64 0, .int .i64 0, .slice none 0 0, .slice none 0 0, .int .i64 0, .int .i64 0, .int .i64 0, .slice none 0 0, .slice none 0 0, .int .i64 0, .int .u64 0, .int .i64 0, .int .i64 0, .slice none 0 0, .slice none 0 0, .slice none 0 0, .int .i64 0, .int .i64 0, .int .i64 0, .slice none 0 0]], []⟩ 8 (by kernel_rfl) (by kernel_rfl) (by kernel_rfl) (by kernel_rfl)) ?_
  intro W base args ds gs before hval hW _ _
  obtain ⟨p, q, hA, _⟩ := id hW
  obtain ⟨xs, hx, hr⟩ := TrodAll_rep (n := 9) _ _ _ _ (by rw [Tryz.params4]; exact List.all_eq_true.1 (by kernel_rfl)) (fun j t v h1 h2 => hval j t v (by simpa using h1) (by simpa using h2)) hA
  rw [Tryz.params4] at hx
  simp only [TyFs] at hx
  obtain ⟨_, _, rfl, ⟨x0, rfl, hx0⟩, _, _, rfl, ⟨x1, rfl, hx1⟩, _, _, rfl, ⟨x2, rfl, hx2⟩, _, _, rfl, ⟨x3, rfl, hx3⟩, _, _, rfl, ⟨x4, rfl, hx4⟩, _, _, rfl, ⟨x5, rfl, hx5⟩, rfl⟩ := hx
  obtain ⟨raw, rfl⟩ := shDir hx0
  obtain ⟨seeds, rfl⟩ := shBytes hx1
  obtain ⟨id, -, rfl⟩ := shU64 hx2
  obtain ⟨node, rfl⟩ := shInt hx3
  obtain ⟨mode, rfl⟩ := shInt hx4
  obtain ⟨o, rfl⟩ := shOb hx5
  exact law_calls (fn := Tryz.f4) mov_ok Tryz.laidOut (by
      rw [Tryz.params4]
      intro t ht
      have h1 : ∀ t ∈ (Func.params Tryz.f4).toList, Tryz.prog.readableRec t = true := List.all_eq_true.1 (by kernel_rfl)
      have h2 : ∀ t ∈ (Func.params Tryz.f4).toList, decide (t < Tryz.prog.types.size) = true := List.all_eq_true.1 (by kernel_rfl)
      rw [Tryz.params4] at h1 h2
      exact ⟨h1 t ht, of_decide_eq_true (h2 t ht)⟩) rfl tu4 rfl (fun ds h => by
    match ds, h with
    | [d0, d1, d2, d3, d4, d5], _ => rfl) hW hr (mov_eq ⟨raw, seeds, id, node, mode, o⟩)
theorem directoryMoves_holds : Rows.DirectoryMovesSaid :=
  OpenClaim.holds_of_wide 4 Tryz.f4 rfl rfl rfl rfl rfl rfl rfl ⟨rfl, rfl, rfl, rfl, rfl⟩ rfl rfl rfl rfl rfl (by kernel_rfl) Tryz.func4 jf_closed
    (of_decide_eq_true (by kernel_rfl)) (by unfold Func.isWrapper; first | (rw [if_pos (by decide +kernel)]; kernel_rfl) | (rw [if_neg (by decide +kernel)]; exact ⟨rfl, rfl⟩))
    (fun os started H enc _ => directoryMoves_lifted os started H enc)

end Go.Proofs.YtlakgienobmpbaaGreat
