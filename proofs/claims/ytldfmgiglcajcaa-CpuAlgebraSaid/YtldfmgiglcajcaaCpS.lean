/- The statement CpuAlgebraSaid: for every input the law answers true and leaves its arguments as they were. Conditions: none. -/
import Derived.Test.YtldfmgiglcajcaaCpI
import Derived.Test.YtldfmgiglcajcaaAbsZ
import Derived.Test.YtldfmgiglcajcaaRows
namespace Go.Proofs.Ytldfmgiglcajcaa
open Go.ChangeShapes Go.WideShapes Go.ChangeAt Go.RowKit Go.Abs Go.Abs.Cp
theorem Try.own : ownKnob Try.prog.godebug = none := by kernel_rfl
theorem Try.laidOut : laidOutB Try.prog = true := by kernel_rfl
theorem shape2w {x : AV} (h : TyV Try.prog 9 2 x) : ∃ n : Int, x = .int .i64 n ∧ in64 n := by
  simp only [TyV, TyR, Try.underlying2, List.cons.injEq, and_true] at h
  obtain ⟨m, rfl, hw⟩ := h
  refine ⟨m, rfl, ?_⟩
  simp only [Lit.wf, Bool.and_eq_true, decide_eq_true_eq] at hw
  have e1 : IntKind.i64.min = -9223372036854775808 := by decide
  have e2 : IntKind.i64.max = 9223372036854775807 := by decide
  rw [e1, e2] at hw
  exact hw
set_option maxRecDepth 100000 in
theorem cpuAlgebra_lifted (os : Os) (started : os.Started) (H : Type) (enc : TypeId × Value → H) :
    ReturnsInHanded {} Try.checked os 6 .any (Rows.cpuAlgebraSpec.pre6 enc Try.prog Try.f6 Rows.cpuAlgebraRow.domain false) (Rows.cpuAlgebraSpec.post enc Try.prog Try.f6 false true false false) := by
  refine returnsInHanded_of_change (C := Try.checked) Try.own started (by kernel_rfl) Try.func6
    (ChangeSpec.witness6 (enc := enc) (C := Try.checked) false ⟨#[], #[.int .i64 0, .int .i64 0], []⟩ 8 (by kernel_rfl) (by kernel_rfl) (by kernel_rfl) (by kernel_rfl)) ?_
  intro W base args ds gs before hval hW _ _
  obtain ⟨p, q, hA, _⟩ := id hW
  obtain ⟨xs, hx, hr⟩ := TrodAll_rep (n := 9) _ _ _ _ (by rw [Try.params6]; exact List.all_eq_true.1 (by kernel_rfl)) (fun j t v h1 h2 => hval j t v (by simpa using h1) (by simpa using h2)) hA
  rw [Try.params6] at hx
  simp only [TyFs] at hx
  obtain ⟨_, _, rfl, ⟨x0, rfl, hx0⟩, _, _, rfl, ⟨x1, rfl, hx1⟩, rfl⟩ := hx
  obtain ⟨a, rfl, ha⟩ := shape2w hx0
  obtain ⟨b, rfl, hb⟩ := shape2w hx1
  exact law_calls (fn := Try.f6) lawA_ok Try.laidOut (by
      rw [Try.params6]
      intro t ht
      have h1 : ∀ t ∈ (Func.params Try.f6).toList, Try.prog.readableRec t = true := List.all_eq_true.1 (by kernel_rfl)
      have h2 : ∀ t ∈ (Func.params Try.f6).toList, decide (t < Try.prog.types.size) = true := List.all_eq_true.1 (by kernel_rfl)
      rw [Try.params6] at h1 h2
      exact ⟨h1 t ht, of_decide_eq_true (h2 t ht)⟩) rfl tu4 rfl (fun ds h => by
    match ds, h with
    | [d0, d1], _ => rfl) hW hr (mkS_eq (enc := encL) (fun _ _ _ => rfl) ⟨(a, b), ha, hb⟩)
theorem cpuAlgebra_holds : Rows.CpuAlgebraSaid :=
  OpenClaim.holds_of_wide 6 Try.f6 rfl rfl rfl rfl rfl rfl rfl ⟨rfl, rfl, rfl, rfl, rfl⟩ rfl rfl rfl rfl rfl (by kernel_rfl) Try.func6 (by kernel_rfl)
    (of_decide_eq_true (by kernel_rfl)) (by unfold Func.isWrapper; first | (rw [if_pos (by decide +kernel)]; kernel_rfl) | (rw [if_neg (by decide +kernel)]; exact ⟨rfl, rfl⟩))
    (fun os started H enc _ => cpuAlgebra_lifted os started H enc)
end Go.Proofs.Ytldfmgiglcajcaa
