/- The statement CpuReturnsSaid: for every input the law answers true and leaves its arguments as they were. Conditions: none. -/
import Derived.Test.YtldfmgiglcajcaaCpC
import Derived.Test.YtldfmgiglcajcaaAbsZ
import Derived.Test.YtldfmgiglcajcaaRows
namespace Go.Proofs.Ytldfmgiglcajcaa
open Go.ChangeShapes Go.WideShapes Go.ChangeAt Go.RowKit Go.Abs Go.Abs.Cp
theorem Try.own : ownKnob Try.prog.godebug = none := by kernel_rfl
theorem Try.laidOut : laidOutB Try.prog = true := by kernel_rfl
theorem shape2 {x : AV} (h : TyV Try.prog 9 2 x) : ∃ n : Int, x = .int .i64 n := by
  simp only [TyV, TyR, Try.underlying2, List.cons.injEq, and_true] at h
  obtain ⟨m, rfl, _⟩ := h
  exact ⟨m, rfl⟩
theorem shape3 {x : AV} (h : TyV Try.prog 9 3 x) : ∃ n : Int, x = .int .i64 n := by
  simp only [TyV, TyR, Try.underlying3, List.cons.injEq, and_true] at h
  obtain ⟨m, rfl, _⟩ := h
  exact ⟨m, rfl⟩
theorem ints_of : ∀ (n : Nat) (xs : List AV), TyFs (TyR Try.prog 7) (List.replicate n 2) xs → ∃ l : List Int, l.length = n ∧ xs = l.map (.int .i64)
  | 0, xs, h => by simp only [List.replicate, TyFs] at h; exact ⟨[], rfl, h⟩
  | n + 1, xs, h => by
    simp only [List.replicate, TyFs, TyR, Try.underlying2] at h
    obtain ⟨_, _, rfl, ⟨m, rfl, _⟩, h⟩ := h
    obtain ⟨l, hl, rfl⟩ := ints_of n _ h
    exact ⟨m :: l, by simp [hl], rfl⟩
theorem shape24 {x : AV} (h : TyV Try.prog 9 24 x) : ∃ c : Cpu, x = .agg c.cells := by
  simp only [TyV, TyR, Try.underlying24, Try.underlying22, Try.underlying3] at h
  obtain ⟨cs, rfl, h⟩ := h
  simp only [List.map_cons, List.map_nil, TyFs, TyR, Try.underlying22, Try.underlying3] at h
  obtain ⟨_, _, rfl, ⟨m, rfl, _⟩, _, _, rfl, h, rfl⟩ := h
  obtain ⟨l, hl, rfl⟩ := ints_of 8 _ h
  exact ⟨⟨m, l, hl⟩, by simp [Cpu.cells]⟩
set_option maxRecDepth 100000 in
theorem cpuReturns_lifted (os : Os) (started : os.Started) (H : Type) (enc : TypeId × Value → H) :
    ReturnsInHanded {} Try.checked os 7 .any (Rows.cpuReturnsSpec.pre6 enc Try.prog Try.f7 Rows.cpuReturnsRow.domain false) (Rows.cpuReturnsSpec.post enc Try.prog Try.f7 false true false false) := by
  refine returnsInHanded_of_change (C := Try.checked) Try.own started (by kernel_rfl) Try.func7
    (ChangeSpec.witness6 (enc := enc) (C := Try.checked) false ⟨#[], #[.agg #[.int .i64 0, .int .i64 0, .int .i64 0, .int .i64 0, .int .i64 0, .int .i64 0, .int .i64 0, .int .i64 0, .int .i64 0], .int .i64 0, .int .i64 0, .int .i64 0], []⟩ 8 (by kernel_rfl) (by kernel_rfl) (by kernel_rfl) (by kernel_rfl)) ?_
  intro W base args ds gs before hval hW _ _
  obtain ⟨p, q, hA, _⟩ := id hW
  obtain ⟨xs, hx, hr⟩ := TrodAll_rep (n := 9) _ _ _ _ (by rw [Try.params7]; exact List.all_eq_true.1 (by kernel_rfl)) (fun j t v h1 h2 => hval j t v (by simpa using h1) (by simpa using h2)) hA
  rw [Try.params7] at hx
  simp only [TyFs] at hx
  obtain ⟨_, _, rfl, ⟨x0, rfl, hx0⟩, _, _, rfl, ⟨x1, rfl, hx1⟩, _, _, rfl, ⟨x2, rfl, hx2⟩, _, _, rfl, ⟨x3, rfl, hx3⟩, rfl⟩ := hx
  obtain ⟨c, rfl⟩ := shape24 hx0
  obtain ⟨n, rfl⟩ := shape3 hx1
  obtain ⟨a, rfl⟩ := shape2 hx2
  obtain ⟨b, rfl⟩ := shape2 hx3
  exact law_calls (fn := Try.f7) lawR_ok Try.laidOut (by
      rw [Try.params7]
      intro t ht
      have h1 : ∀ t ∈ (Func.params Try.f7).toList, Try.prog.readableRec t = true := List.all_eq_true.1 (by kernel_rfl)
      have h2 : ∀ t ∈ (Func.params Try.f7).toList, decide (t < Try.prog.types.size) = true := List.all_eq_true.1 (by kernel_rfl)
      rw [Try.params7] at h1 h2
      exact ⟨h1 t ht, of_decide_eq_true (h2 t ht)⟩) rfl tu4 rfl (fun ds h => by
    match ds, h with
    | [d0, d1, d2, d3], _ => rfl) hW hr (mkS_eq (enc := encR) (fun _ _ _ => rfl) (c, n, a, b))
theorem cpuReturns_holds : Rows.CpuReturnsSaid :=
  OpenClaim.holds_of_wide 7 Try.f7 rfl rfl rfl rfl rfl rfl rfl ⟨rfl, rfl, rfl, rfl, rfl⟩ rfl rfl rfl rfl rfl (by kernel_rfl) Try.func7 (by kernel_rfl)
    (of_decide_eq_true (by kernel_rfl)) (by unfold Func.isWrapper; first | (rw [if_pos (by decide +kernel)]; kernel_rfl) | (rw [if_neg (by decide +kernel)]; exact ⟨rfl, rfl⟩))
    (fun os started H enc _ => cpuReturns_lifted os started H enc)
end Go.Proofs.Ytldfmgiglcajcaa
