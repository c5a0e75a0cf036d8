/- The statement PolicySettlesSaid: for every input the law answers true and leaves its arguments as they were. Conditions: none. -/
import Derived.Test.YtkalkcgbecbgpaaPo7
import Derived.Test.YtkalkcgbecbgpaaAb8
import Derived.Test.YtkalkcgbecbgpaaRows
namespace Go.Proofs.Ytkalkcgbecbgpaa
set_option maxRecDepth 100000
set_option linter.unusedSimpArgs false
set_option linter.unusedVariables false
open Go.ChangeShapes Go.WideShapes Go.ChangeAt Go.RowKit Go.Abs Go.Abs.Po
theorem Try.own : ownKnob Try.prog.godebug = none := by kernel_rfl
theorem Try.laidOut : laidOutB Try.prog = true := by kernel_rfl
theorem tu4 : Try.prog.underlying 4 = some .bool := by kernel_rfl
theorem cells3 : Try.prog.cellsOf 3 = 1 := by kernel_rfl
theorem shape22 {x : AV} (h : TyV Try.prog 9 22 x) : ∃ L : List Int, L.length ≤ maxLen ∧ (∀ n ∈ L, (Lit.int .i64 n).wf = true) ∧ x = .list 1 (L.map fun n => [.int .i64 n]) := by
  simp only [TyV, TyR, Try.underlying22, Try.underlying3, cells3, List.cons.injEq, and_true] at h
  obtain ⟨rows, rfl, hl, h⟩ := h
  have : ∀ rows : List (List AV), (∀ row ∈ rows, ∃ m, row = [.int .i64 m] ∧ (Lit.int .i64 m).wf = true) → ∃ L : List Int, (∀ n ∈ L, (Lit.int .i64 n).wf = true) ∧ rows = L.map fun n => [.int .i64 n] := by
    intro rows
    induction rows with
    | nil => exact fun _ => ⟨[], by simp, rfl⟩
    | cons r rs ih =>
      intro h
      obtain ⟨l, hw, hl⟩ := ih fun row hr => h row (by simp [hr])
      obtain ⟨m, rfl, hm⟩ := h r (by simp)
      exact ⟨m :: l, by simpa using ⟨hm, hw⟩, by simp [hl]⟩
  obtain ⟨L, hw, rfl⟩ := this rows h
  exact ⟨L, by simpa using hl, hw, rfl⟩
set_option maxRecDepth 100000 in
theorem policySettles_lifted (os : Os) (started : os.Started) (H : Type) (enc : TypeId × Value → H) :
    ReturnsInHanded {} Try.checked os 4 .any (Rows.policySettlesSpec.pre6 enc Try.prog Try.f4 Rows.policySettlesRow.domain false) (Rows.policySettlesSpec.post enc Try.prog Try.f4 false true false false) := by
  refine returnsInHanded_of_change (C := Try.checked) Try.own started (by kernel_rfl) Try.func4
    (ChangeSpec.witness6 (enc := enc) (C := Try.checked) false ⟨#[], #[.slice none 0 0, .slice none 0 0], []⟩ 8 (by kernel_rfl) (by kernel_rfl) (by kernel_rfl) (by kernel_rfl)) ?_
  intro W base args ds gs before hval hW _ _
  obtain ⟨p, q, hA, _⟩ := id hW
  obtain ⟨xs, hx, hr⟩ := TrodAll_rep (n := 9) _ _ _ _ (by rw [Try.params4]; exact List.all_eq_true.1 (by kernel_rfl)) (fun j t v h1 h2 => hval j t v (by simpa using h1) (by simpa using h2)) hA
  rw [Try.params4] at hx
  simp only [TyFs] at hx
  obtain ⟨_, _, rfl, ⟨x0, rfl, hx0⟩, _, _, rfl, ⟨x1, rfl, hx1⟩, rfl⟩ := hx
  obtain ⟨L, hL, _, rfl⟩ := shape22 hx0
  obtain ⟨M, hM, _, rfl⟩ := shape22 hx1
  exact law_calls (fn := Try.f4) sets_ok Try.laidOut (by
      rw [Try.params4]
      intro t ht
      have h1 : ∀ t ∈ (Func.params Try.f4).toList, Try.prog.readableRec t = true := List.all_eq_true.1 (by kernel_rfl)
      have h2 : ∀ t ∈ (Func.params Try.f4).toList, decide (t < Try.prog.types.size) = true := List.all_eq_true.1 (by kernel_rfl)
      rw [Try.params4] at h1 h2
      exact ⟨h1 t ht, of_decide_eq_true (h2 t ht)⟩) rfl tu4 rfl (fun ds h => by
    match ds, h with
    | [d0, d1], _ => rfl) hW hr (mkS_eq (enc := encLM) encLM_inj ⟨L, M, hL, hM⟩)
theorem policySettles_holds : Rows.PolicySettlesSaid :=
  OpenClaim.holds_of_wide 4 Try.f4 rfl rfl rfl rfl rfl rfl rfl ⟨rfl, rfl, rfl, rfl, rfl⟩ rfl rfl rfl rfl rfl (by kernel_rfl) Try.func4 (by kernel_rfl)
    (of_decide_eq_true (by kernel_rfl)) (by unfold Func.isWrapper; first | (rw [if_pos (by decide +kernel)]; kernel_rfl) | (rw [if_neg (by decide +kernel)]; exact ⟨rfl, rfl⟩))
    (fun os started H enc _ => policySettles_lifted os started H enc)

end Go.Proofs.Ytkalkcgbecbgpaa
