/- The statement CpuSumsSaid: for every input the law answers true and leaves its arguments as they were. Conditions: none. -/
import Derived.Test.YtldfmgiglcajcaaCpJ
import Derived.Test.YtldfmgiglcajcaaAbsZ
import Derived.Test.YtldfmgiglcajcaaRows
namespace Go.Proofs.Ytldfmgiglcajcaa
open Go.ChangeShapes Go.WideShapes Go.ChangeAt Go.RowKit Go.Abs Go.Abs.Cp
theorem Try.own : ownKnob Try.prog.godebug = none := by kernel_rfl
theorem Try.laidOut : laidOutB Try.prog = true := by kernel_rfl
theorem tu5 : Try.prog.underlying 5 = some (.int .u8) := by kernel_rfl
theorem shape5 {x : AV} (h : TyV Try.prog 9 5 x) : ∃ n : Int, x = .int .u8 n ∧ 0 ≤ n ∧ n ≤ 255 := by
  simp only [TyV, TyR, tu5, List.cons.injEq, and_true] at h
  obtain ⟨m, rfl, hw⟩ := h
  simp only [Lit.wf, Bool.and_eq_true, decide_eq_true_eq] at hw
  have e1 : IntKind.u8.min = 0 := by decide
  have e2 : IntKind.u8.max = 255 := by decide
  rw [e1, e2] at hw
  exact ⟨m, rfl, hw⟩
set_option maxRecDepth 100000 in
theorem cpuSums_lifted (os : Os) (started : os.Started) (H : Type) (enc : TypeId × Value → H) :
    ReturnsInHanded {} Try.checked os 5 .any (Rows.cpuSumsSpec.pre6 enc Try.prog Try.f5 Rows.cpuSumsRow.domain false) (Rows.cpuSumsSpec.post enc Try.prog Try.f5 false true false false) := by
  refine returnsInHanded_of_change (C := Try.checked) Try.own started (by kernel_rfl) Try.func5
    (ChangeSpec.witness6 (enc := enc) (C := Try.checked) false ⟨#[], #[.int .u8 0], []⟩ 8 (by kernel_rfl) (by kernel_rfl) (by kernel_rfl) (by kernel_rfl)) ?_
  intro W base args ds gs before hval hW _ _
  obtain ⟨p, q, hA, _⟩ := id hW
  obtain ⟨xs, hx, hr⟩ := TrodAll_rep (n := 9) _ _ _ _ (by rw [Try.params5]; exact List.all_eq_true.1 (by kernel_rfl)) (fun j t v h1 h2 => hval j t v (by simpa using h1) (by simpa using h2)) hA
  rw [Try.params5] at hx
  simp only [TyFs] at hx
  obtain ⟨_, _, rfl, ⟨x0, rfl, hx0⟩, rfl⟩ := hx
  obtain ⟨n, rfl, h0, h1⟩ := shape5 hx0
  exact law_calls (fn := Try.f5) lawS_ok Try.laidOut (by
      rw [Try.params5]
      intro t ht
      have h1 : ∀ t ∈ (Func.params Try.f5).toList, Try.prog.readableRec t = true := List.all_eq_true.1 (by kernel_rfl)
      have h2 : ∀ t ∈ (Func.params Try.f5).toList, decide (t < Try.prog.types.size) = true := List.all_eq_true.1 (by kernel_rfl)
      rw [Try.params5] at h1 h2
      exact ⟨h1 t ht, of_decide_eq_true (h2 t ht)⟩) rfl tu4 rfl (fun ds h => by
    match ds, h with
    | [d0], _ => rfl) hW hr (mkS_eq (enc := encS) (fun _ _ _ => rfl) ⟨n, h0, h1⟩)
theorem cpuSums_holds : Rows.CpuSumsSaid :=
  OpenClaim.holds_of_wide 5 Try.f5 rfl rfl rfl rfl rfl rfl rfl ⟨rfl, rfl, rfl, rfl, rfl⟩ rfl rfl rfl rfl rfl (by kernel_rfl) Try.func5 (by kernel_rfl)
    (of_decide_eq_true (by kernel_rfl)) (by unfold Func.isWrapper; first | (rw [if_pos (by decide +kernel)]; kernel_rfl) | (rw [if_neg (by decide +kernel)]; exact ⟨rfl, rfl⟩))
    (fun os started H enc _ => cpuSums_lifted os started H enc)
end Go.Proofs.Ytldfmgiglcajcaa
