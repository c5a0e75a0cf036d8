/- The statement TokenPinsSaid: for every input the law answers true and leaves its arguments as they were. Conditions: none. -/
import Derived.Test.YtbndcamifghfaaaNa8
import Derived.Test.YtbndcamifghfaaaAb8
import Derived.Test.YtbndcamifghfaaaRows
namespace Go.Proofs.Ytbndcamifghfaaa
set_option maxRecDepth 100000
set_option linter.unusedSimpArgs false
set_option linter.unusedVariables false
open Go.ChangeShapes Go.WideShapes Go.ChangeAt Go.RowKit Go.Abs Go.Abs.Na
theorem Try.own : ownKnob Try.prog.godebug = none := by kernel_rfl
theorem Try.laidOut : laidOutB Try.prog = true := by kernel_rfl
theorem tu4 : Try.prog.underlying 4 = some .bool := by kernel_rfl
theorem jf_inPlace : (Rows.tokenPinsRow.inPlace == Try.prog.inPlace 6) = true := by kernel_rfl
theorem jf_unfol : (Rows.tokenPinsRow.unfollowed == Try.prog.unfollowed 6) = true := by kernel_rfl
theorem jf_recur : (Rows.tokenPinsRow.recurses == Try.prog.recurses 6) = true := by kernel_rfl
theorem jf_named : (Rows.tokenPinsRow.named == Try.prog.varsNamed 6) = true := by kernel_rfl
theorem jf_plK : (Rows.tokenPinsRow.plainKeys == Try.prog.plainKeys) = true := by kernel_rfl
theorem jf_stH : Try.prog.stopsHeard = true := by kernel_rfl
theorem jf_mayE : Try.prog.mayEnter = true := by kernel_rfl
theorem jf_lif : (Rows.tokenPinsRow.lifted == Try.prog.liftsFinal) = true := by kernel_rfl
theorem jf_mke : (Try.prog.make == some Rows.tokenPinsRow.make) = true := by kernel_rfl
theorem jf_mapsR : mapsRowed Try.prog = true := by kernel_rfl
theorem jf_closed : joinedFacts Try.prog 6 Try.f6 Rows.tokenPinsSpec Rows.tokenPinsRow = true := by
  unfold joinedFacts
  simp only [Bool.and_eq_true]
  and_intros
  · kernel_rfl
  · exact Try.laidOut
  · exact jf_mapsR
  · kernel_rfl
  · kernel_rfl
  · kernel_rfl
  · kernel_rfl
  · kernel_rfl
  · kernel_rfl
  · exact jf_inPlace
  · exact jf_unfol
  · exact jf_recur
  · exact jf_named
  · kernel_rfl
  · kernel_rfl
  · kernel_rfl
  · kernel_rfl
  · kernel_rfl
  · kernel_rfl
  · kernel_rfl
  · kernel_rfl
  · kernel_rfl
  · exact jf_plK
  · kernel_rfl
  · exact jf_stH
  · exact jf_mayE
  · exact jf_lif
  · exact jf_mke
  · kernel_rfl
  · kernel_rfl
  · kernel_rfl
  · kernel_rfl
set_option maxRecDepth 100000 in
theorem tokenPins_lifted (os : Os) (started : os.Started) (H : Type) (enc : TypeId × Value → H) :
    ReturnsInHanded {} Try.checked os 6 .any (Rows.tokenPinsSpec.pre6 enc Try.prog Try.f6 Rows.tokenPinsRow.domain false) (Rows.tokenPinsSpec.post enc Try.prog Try.f6 false true false false) := by
  refine returnsInHanded_of_change (C := Try.checked) Try.own started (by kernel_rfl) Try.func6
    (ChangeSpec.witness6 (enc := enc) (C := Try.checked) false ⟨#[], #[.agg #[.int .i64 0, .slice none 0 0], .slice none 0 0, .int .u64 0, .int .i64 0, .slice none 0 0, .agg #[.int .u64 0, .int .i64 0, .int .i64 0, .int .i64 0, .int .u64 0, .slice none 0 0, .slice none 0 0, .slice none 0 0, .int .i64 0, .int .i64 0, .int .i64 0, .int .i64 0, .int .i64 0, .int .i64 0, .int .i64 0, .int .i64 0, .int .i64 0, .int .i64 0, .slice none 0 0, .slice none 0 0, .int .i64 0, .int .i64 0, .int .i64 0, .slice none 0 0, .slice none 0 0, .int .i64 0, .int .u64 0, .int .i64 0, .int .i64 0, .slice none 0 0, .slice none 0 0, .slice none 0 0, .int .i64 0, .int .i64 0, .int .i64 0, .slice none 0 0]], []⟩ 8 (by kernel_rfl) (by kernel_rfl) (by kernel_rfl) (by kernel_rfl)) ?_
  intro W base args ds gs before hval hW _ _
  obtain ⟨p, q, hA, _⟩ := id hW
  obtain ⟨xs, hx, hr⟩ := TrodAll_rep (n := 9) _ _ _ _ (by rw [Try.params6]; exact List.all_eq_true.1 (by kernel_rfl)) (fun j t v h1 h2 => hval j t v (by simpa using h1) (by simpa using h2)) hA
  rw [Try.params6] at hx
  simp only [TyFs] at hx
  obtain ⟨_, _, rfl, ⟨x0, rfl, hx0⟩, _, _, rfl, ⟨x1, rfl, hx1⟩, _, _, rfl, ⟨x2, rfl, hx2⟩, _, _, rfl, ⟨x3, rfl, hx3⟩, _, _, rfl, ⟨x4, rfl, hx4⟩, _, _, rfl, ⟨x5, rfl, hx5⟩, rfl⟩ := hx
  obtain ⟨raw, rfl⟩ := shTok hx0
  obtain ⟨seeds, rfl⟩ := shBytes hx1
  obtain ⟨id, wi, rfl⟩ := shU64 hx2
  obtain ⟨mode, rfl⟩ := shInt hx3
  obtain ⟨homes, hh, rfl⟩ := shInts hx4
  obtain ⟨o, rfl⟩ := shOb hx5
  exact law_calls (fn := Try.f6) pins_ok Try.laidOut (by
      rw [Try.params6]
      intro t ht
      have h1 : ∀ t ∈ (Func.params Try.f6).toList, Try.prog.readableRec t = true := List.all_eq_true.1 (by kernel_rfl)
      have h2 : ∀ t ∈ (Func.params Try.f6).toList, decide (t < Try.prog.types.size) = true := List.all_eq_true.1 (by kernel_rfl)
      rw [Try.params6] at h1 h2
      exact ⟨h1 t ht, of_decide_eq_true (h2 t ht)⟩) rfl tu4 rfl (fun ds h => by
    match ds, h with
    | [d0, d1, d2, d3, d4, d5], _ => rfl) hW hr (pins_eq ⟨raw, seeds, id, mode, homes, o, hh, wi⟩)
theorem tokenPins_holds : Rows.TokenPinsSaid :=
  OpenClaim.holds_of_wide 6 Try.f6 rfl rfl rfl rfl rfl rfl rfl ⟨rfl, rfl, rfl, rfl, rfl⟩ rfl rfl rfl rfl rfl (by kernel_rfl) Try.func6 jf_closed
    (of_decide_eq_true (by kernel_rfl)) (by unfold Func.isWrapper; first | (rw [if_pos (by decide +kernel)]; kernel_rfl) | (rw [if_neg (by decide +kernel)]; exact ⟨rfl, rfl⟩))
    (fun os started H enc _ => tokenPins_lifted os started H enc)

end Go.Proofs.Ytbndcamifghfaaa
