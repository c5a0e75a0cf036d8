/- The statement CpuStepsSaid: for every input the law answers true and leaves its arguments as they were. Conditions: none. -/
import Derived.Test.YtldfmgiglcajcaaCpW4
import Derived.Test.YtldfmgiglcajcaaAbsZ
import Derived.Test.YtldfmgiglcajcaaRows
namespace Go.Proofs.Ytldfmgiglcajcaa
set_option linter.unusedSimpArgs false
set_option linter.unusedVariables false
open Go.ChangeShapes Go.WideShapes Go.ChangeAt Go.RowKit Go.Abs Go.Abs.Cp
theorem Try.own : ownKnob Try.prog.godebug = none := by kernel_rfl
theorem Try.laidOut : laidOutB Try.prog = true := by kernel_rfl
theorem tu5 : Try.prog.underlying 5 = some (.int .u8) := by kernel_rfl
theorem tu29 : Try.prog.underlying 29 = some (.slice 5) := by kernel_rfl
theorem tc5 : Try.prog.cellsOf 5 = 1 := by kernel_rfl
theorem shape5 {x : AV} (h : TyV Try.prog 9 5 x) : ∃ n : Int, x = .int .u8 n ∧ 0 ≤ n ∧ n ≤ 255 := by
  simp only [TyV, TyR, tu5, List.cons.injEq, and_true] at h
  obtain ⟨m, rfl, hw⟩ := h
  simp only [Lit.wf, Bool.and_eq_true, decide_eq_true_eq] at hw
  have e1 : IntKind.u8.min = 0 := by decide
  have e2 : IntKind.u8.max = 255 := by decide
  rw [e1, e2] at hw
  exact ⟨m, rfl, hw⟩
theorem ints_of : ∀ (n : Nat) (xs : List AV), TyFs (TyR Try.prog 7) (List.replicate n 2) xs → ∃ l : List Int, l.length = n ∧ xs = l.map (.int .i64)
  | 0, xs, h => by simp only [List.replicate, TyFs] at h; exact ⟨[], rfl, h⟩
  | n + 1, xs, h => by
    simp only [List.replicate, TyFs, TyR, Try.underlying2] at h
    obtain ⟨_, _, rfl, ⟨m, rfl, _⟩, h⟩ := h
    obtain ⟨l, hl, rfl⟩ := ints_of n _ h
    exact ⟨m :: l, by simp [hl], rfl⟩
theorem shape24 {x : AV} (h : TyV Try.prog 9 24 x) : ∃ c : Cpu, x = .agg c.cells := by
  simp only [TyV, TyR, Try.underlying24, Try.underlying22, Try.underlying3] at h
  obtain ⟨cs, rfl, h⟩ := h
  simp only [List.map_cons, List.map_nil, TyFs, TyR, Try.underlying22, Try.underlying3] at h
  obtain ⟨_, _, rfl, ⟨m, rfl, _⟩, _, _, rfl, h, rfl⟩ := h
  obtain ⟨l, hl, rfl⟩ := ints_of 8 _ h
  exact ⟨⟨m, l, hl⟩, by simp [Cpu.cells]⟩
theorem shape29 {x : AV} (h : TyV Try.prog 9 29 x) : ∃ l : List UInt8, x = .list 1 (l.map byte) := by
  simp only [TyV, TyR, tu29, tu5, tc5, List.cons.injEq, and_true] at h
  obtain ⟨rows, rfl, _, h⟩ := h
  have : ∀ rows : List (List AV), (∀ row ∈ rows, ∃ m, row = [.int .u8 m] ∧ (Lit.int .u8 m).wf = true) → ∃ l : List UInt8, rows = l.map byte := by
    intro rows
    induction rows with
    | nil => exact fun _ => ⟨[], rfl⟩
    | cons r rs ih =>
      intro h
      obtain ⟨l, hl⟩ := ih fun row hr => h row (by simp [hr])
      obtain ⟨m, rfl, hw⟩ := h r (by simp)
      simp only [Lit.wf, Bool.and_eq_true, decide_eq_true_eq] at hw
      have e1 : IntKind.u8.min = 0 := by decide
      have e2 : IntKind.u8.max = 255 := by decide
      rw [e1, e2] at hw
      refine ⟨UInt8.ofNat m.toNat :: l, ?_⟩
      have : ((UInt8.ofNat m.toNat).toNat : Int) = m := by
        rw [UInt8.toNat_ofNat_of_lt' (by show m.toNat < 256; omega)]
        omega
      rw [List.map_cons, byte, this, hl]
  obtain ⟨l, rfl⟩ := this rows h
  exact ⟨l, rfl⟩
theorem tc31 : Try.prog.cellsOf 31 = 4 := by kernel_rfl
theorem tc9 : Try.prog.cellsOf 9 = 1 := by kernel_rfl
theorem ins_of {xs : List AV} (h : TyFs (TyR Try.prog 6) [3, 3, 3, 3] xs) : ∃ i : Ins, xs = i.cells := by
  simp only [TyFs, TyR, Try.underlying3] at h
  obtain ⟨_, _, rfl, ⟨a, rfl, _⟩, _, _, rfl, ⟨b, rfl, _⟩, _, _, rfl, ⟨c, rfl, _⟩, _, _, rfl, ⟨d, rfl, _⟩, rfl⟩ := h
  exact ⟨⟨a, b, c, d⟩, rfl⟩
theorem shape31 {x : AV} (h : TyV Try.prog 9 31 x) : ∃ i : Ins, x = .agg i.cells := by
  simp only [TyV, TyR, Try.underlying31, Try.underlying3] at h
  obtain ⟨cs, rfl, h⟩ := h
  simp only [List.map_cons, List.map_nil, TyFs, TyR, Try.underlying3] at h
  obtain ⟨_, _, rfl, ⟨a, rfl, _⟩, _, _, rfl, ⟨b, rfl, _⟩, _, _, rfl, ⟨c, rfl, _⟩, _, _, rfl, ⟨d, rfl, _⟩, rfl⟩ := h
  exact ⟨⟨a, b, c, d⟩, rfl⟩
theorem shape28 {x : AV} (h : TyV Try.prog 9 28 x) : ∃ p : PrgK, x = .agg p.cells := by
  simp only [TyV, TyR, Try.underlying28, Try.underlying25, Try.underlying26, Try.underlying9, Try.underlying31, Try.underlying3, tc31, tc9] at h
  obtain ⟨cs, rfl, h⟩ := h
  simp only [List.map_cons, List.map_nil, TyFs, TyR, Try.underlying25, Try.underlying26, Try.underlying9, Try.underlying31, Try.underlying3, tc31, tc9] at h
  obtain ⟨_, _, rfl, ⟨r1, rfl, hl1, h1⟩, _, _, rfl, ⟨r2, rfl, hl2, h2⟩, _, _, rfl, ⟨n, rfl, _⟩, rfl⟩ := h
  have g1 : ∃ l : List Ins, r1 = l.map Ins.cells := by
    clear h2 hl1 hl2
    induction r1 with
    | nil => exact ⟨[], rfl⟩
    | cons r rs ih =>
      obtain ⟨l, hl⟩ := ih fun row hr => h1 row (by simp [hr])
      obtain ⟨_, _, e, ⟨a, rfl, _⟩, _, _, rfl, ⟨b, rfl, _⟩, _, _, rfl, ⟨c, rfl, _⟩, _, _, rfl, ⟨d, rfl, _⟩, rfl⟩ := h1 r (by simp)
      exact ⟨⟨a, b, c, d⟩ :: l, by rw [List.map_cons, hl, e]; rfl⟩
  have g2 : ∃ l : List ByteArray, r2 = l.map strC := by
    clear h1 hl1 hl2
    induction r2 with
    | nil => exact ⟨[], rfl⟩
    | cons r rs ih =>
      obtain ⟨l, hl⟩ := ih fun row hr => h2 row (by simp [hr])
      obtain ⟨s, e, _⟩ := h2 r (by simp)
      exact ⟨s :: l, by rw [List.map_cons, hl, e]; rfl⟩
  obtain ⟨l1, rfl⟩ := g1
  obtain ⟨l2, rfl⟩ := g2
  exact ⟨⟨l1, l2, n⟩, rfl⟩
set_option maxRecDepth 100000 in
theorem cpuSteps_lifted (os : Os) (started : os.Started) (H : Type) (enc : TypeId × Value → H) :
    ReturnsInHanded {} Try.checked os 3 .any (Rows.cpuStepsSpec.pre6 enc Try.prog Try.f3 Rows.cpuStepsRow.domain false) (Rows.cpuStepsSpec.post enc Try.prog Try.f3 false true false false) := by
  refine returnsInHanded_of_change (C := Try.checked) Try.own started (by kernel_rfl) Try.func3
    (ChangeSpec.witness6 (enc := enc) (C := Try.checked) false ⟨#[], #[.agg #[.int .i64 0, .int .i64 0, .int .i64 0, .int .i64 0, .int .i64 0, .int .i64 0, .int .i64 0, .int .i64 0, .int .i64 0], .agg #[.slice none 0 0, .slice none 0 0, .int .i64 0], .slice none 0 0, .agg #[.int .i64 0, .int .i64 0, .int .i64 0, .int .i64 0]], []⟩ 8 (by kernel_rfl) (by kernel_rfl) (by kernel_rfl) (by kernel_rfl)) ?_
  intro W base args ds gs before hval hW _ _
  obtain ⟨p, q, hA, _⟩ := id hW
  obtain ⟨xs, hx, hr⟩ := TrodAll_rep (n := 9) _ _ _ _ (by rw [Try.params3]; exact List.all_eq_true.1 (by kernel_rfl)) (fun j t v h1 h2 => hval j t v (by simpa using h1) (by simpa using h2)) hA
  rw [Try.params3] at hx
  simp only [TyFs] at hx
  obtain ⟨_, _, rfl, ⟨x0, rfl, hx0⟩, _, _, rfl, ⟨x1, rfl, hx1⟩, _, _, rfl, ⟨x2, rfl, hx2⟩, _, _, rfl, ⟨x3, rfl, hx3⟩, rfl⟩ := hx
  obtain ⟨c, rfl⟩ := shape24 hx0
  obtain ⟨p, rfl⟩ := shape28 hx1
  obtain ⟨l, rfl⟩ := shape29 hx2
  obtain ⟨i, rfl⟩ := shape31 hx3
  exact law_calls (fn := Try.f3) lawT_ok Try.laidOut (by
      rw [Try.params3]
      intro t ht
      have h1 : ∀ t ∈ (Func.params Try.f3).toList, Try.prog.readableRec t = true := List.all_eq_true.1 (by kernel_rfl)
      have h2 : ∀ t ∈ (Func.params Try.f3).toList, decide (t < Try.prog.types.size) = true := List.all_eq_true.1 (by kernel_rfl)
      rw [Try.params3] at h1 h2
      exact ⟨h1 t ht, of_decide_eq_true (h2 t ht)⟩) rfl tu4 rfl (fun ds h => by
    match ds, h with
    | [d0, d1, d2, d3], _ => rfl) hW hr (mkS_eq (enc := encSt) (fun _ _ _ => rfl) (c, p, l, i))
theorem cpuSteps_holds : Rows.CpuStepsSaid :=
  OpenClaim.holds_of_wide 3 Try.f3 rfl rfl rfl rfl rfl rfl rfl ⟨rfl, rfl, rfl, rfl, rfl⟩ rfl rfl rfl rfl rfl (by kernel_rfl) Try.func3 (by kernel_rfl)
    (of_decide_eq_true (by kernel_rfl)) (by unfold Func.isWrapper; first | (rw [if_pos (by decide +kernel)]; kernel_rfl) | (rw [if_neg (by decide +kernel)]; exact ⟨rfl, rfl⟩))
    (fun os started H enc _ => cpuSteps_lifted os started H enc)
end Go.Proofs.Ytldfmgiglcajcaa
