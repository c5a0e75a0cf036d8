/- The statement GroupForgetsSaid: for every input the law answers true and leaves its arguments as they were. Conditions: none. -/
import Derived.Test.YtffoafkdoclfcaaGrN
import Derived.Test.YtffoafkdoclfcaaAbsZ
import Derived.Test.YtffoafkdoclfcaaRows
namespace Go.Proofs.Ytffoafkdoclfcaa
set_option maxRecDepth 100000
set_option linter.unusedSimpArgs false
set_option linter.unusedVariables false
open Go.ChangeShapes Go.WideShapes Go.ChangeAt Go.RowKit Go.Abs Go.Abs.Gr
theorem Try.own : ownKnob Try.prog.godebug = none := by kernel_rfl
theorem Try.laidOut : laidOutB Try.prog = true := by kernel_rfl
theorem tu4 : Try.prog.underlying 4 = some .bool := by kernel_rfl
theorem shape3 {x : AV} (h : TyV Try.prog 9 3 x) : ∃ n : Int, x = .int .i64 n := by
  simp only [TyV, TyR, Try.underlying3, List.cons.injEq, and_true] at h
  obtain ⟨m, rfl, _⟩ := h
  exact ⟨m, rfl⟩
theorem shape22 {x : AV} (h : TyV Try.prog 9 22 x) : ∃ n : Int, x = .int .u64 n := by
  simp only [TyV, TyR, Try.underlying22, List.cons.injEq, and_true] at h
  obtain ⟨m, rfl, _⟩ := h
  exact ⟨m, rfl⟩
theorem cells3 : Try.prog.cellsOf 3 = 1 := by kernel_rfl
theorem shape33 {x : AV} (h : TyV Try.prog 9 33 x) : ∃ L : List Int, L.length ≤ maxLen ∧ x = .list 1 (L.map ic) := by
  simp only [TyV, TyR, Try.underlying33, Try.underlying3, cells3, List.cons.injEq, and_true] at h
  obtain ⟨rows, rfl, hl, h⟩ := h
  have : ∀ rows : List (List AV), (∀ row ∈ rows, ∃ m, row = [.int .i64 m] ∧ (Lit.int .i64 m).wf = true) → ∃ L : List Int, rows = L.map ic := by
    intro rows
    induction rows with
    | nil => exact fun _ => ⟨[], rfl⟩
    | cons r rs ih =>
      intro h
      obtain ⟨l, hl⟩ := ih fun row hr => h row (by simp [hr])
      obtain ⟨m, rfl, _⟩ := h r (by simp)
      exact ⟨m :: l, by simp [hl, ic]⟩
  obtain ⟨L, rfl⟩ := this rows h
  exact ⟨L, by simpa using hl, rfl⟩
set_option maxRecDepth 100000 in
theorem groupForgets_lifted (os : Os) (started : os.Started) (H : Type) (enc : TypeId × Value → H) :
    ReturnsInHanded {} Try.checked os 7 .any (Rows.groupForgetsSpec.pre6 enc Try.prog Try.f7 Rows.groupForgetsRow.domain false) (Rows.groupForgetsSpec.post enc Try.prog Try.f7 false true false false) := by
  refine returnsInHanded_of_change (C := Try.checked) Try.own started (by kernel_rfl) Try.func7
    (ChangeSpec.witness6 (enc := enc) (C := Try.checked) false ⟨#[], #[.slice none 0 0, .int .u64 0, .int .u64 0], []⟩ 8 (by kernel_rfl) (by kernel_rfl) (by kernel_rfl) (by kernel_rfl)) ?_
  intro W base args ds gs before hval hW _ _
  obtain ⟨p, q, hA, _⟩ := id hW
  obtain ⟨xs, hx, hr⟩ := TrodAll_rep (n := 9) _ _ _ _ (by rw [Try.params7]; exact List.all_eq_true.1 (by kernel_rfl)) (fun j t v h1 h2 => hval j t v (by simpa using h1) (by simpa using h2)) hA
  rw [Try.params7] at hx
  simp only [TyFs] at hx
  obtain ⟨_, _, rfl, ⟨x0, rfl, hx0⟩, _, _, rfl, ⟨x1, rfl, hx1⟩, _, _, rfl, ⟨x2, rfl, hx2⟩, rfl⟩ := hx
  obtain ⟨L, hL, rfl⟩ := shape33 hx0
  obtain ⟨a, rfl⟩ := shape22 hx1
  obtain ⟨b, rfl⟩ := shape22 hx2
  exact law_calls (fn := Try.f7) lawF_ok Try.laidOut (by
      rw [Try.params7]
      intro t ht
      have h1 : ∀ t ∈ (Func.params Try.f7).toList, Try.prog.readableRec t = true := List.all_eq_true.1 (by kernel_rfl)
      have h2 : ∀ t ∈ (Func.params Try.f7).toList, decide (t < Try.prog.types.size) = true := List.all_eq_true.1 (by kernel_rfl)
      rw [Try.params7] at h1 h2
      exact ⟨h1 t ht, of_decide_eq_true (h2 t ht)⟩) rfl tu4 rfl (fun ds h => by
    match ds, h with
    | [d0, d1, d2], _ => rfl) hW hr (mkS_eq (enc := encF) encF_inj (⟨L, hL⟩, a, b))
theorem groupForgets_holds : Rows.GroupForgetsSaid :=
  OpenClaim.holds_of_wide 7 Try.f7 rfl rfl rfl rfl rfl rfl rfl ⟨rfl, rfl, rfl, rfl, rfl⟩ rfl rfl rfl rfl rfl (by kernel_rfl) Try.func7 (by kernel_rfl)
    (of_decide_eq_true (by kernel_rfl)) (by unfold Func.isWrapper; first | (rw [if_pos (by decide +kernel)]; kernel_rfl) | (rw [if_neg (by decide +kernel)]; exact ⟨rfl, rfl⟩))
    (fun os started H enc _ => groupForgets_lifted os started H enc)
end Go.Proofs.Ytffoafkdoclfcaa
