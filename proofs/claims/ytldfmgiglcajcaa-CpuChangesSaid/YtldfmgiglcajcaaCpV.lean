/- The statement CpuChangesSaid: for every input the law answers true and leaves its arguments as they were. Conditions: none. -/
import Derived.Test.YtldfmgiglcajcaaCpU
import Derived.Test.YtldfmgiglcajcaaAbsZ
import Derived.Test.YtldfmgiglcajcaaRows
namespace Go.Proofs.Ytldfmgiglcajcaa
open Go.ChangeShapes Go.WideShapes Go.ChangeAt Go.RowKit Go.Abs Go.Abs.Cp
theorem Try.own : ownKnob Try.prog.godebug = none := by kernel_rfl
theorem Try.laidOut : laidOutB Try.prog = true := by kernel_rfl
theorem tu5 : Try.prog.underlying 5 = some (.int .u8) := by kernel_rfl
theorem tu29 : Try.prog.underlying 29 = some (.slice 5) := by kernel_rfl
theorem tc5 : Try.prog.cellsOf 5 = 1 := by kernel_rfl
theorem shape5 {x : AV} (h : TyV Try.prog 9 5 x) : ∃ n : Int, x = .int .u8 n ∧ 0 ≤ n ∧ n ≤ 255 := by
  simp only [TyV, TyR, tu5, List.cons.injEq, and_true] at h
  obtain ⟨m, rfl, hw⟩ := h
  simp only [Lit.wf, Bool.and_eq_true, decide_eq_true_eq] at hw
  have e1 : IntKind.u8.min = 0 := by decide
  have e2 : IntKind.u8.max = 255 := by decide
  rw [e1, e2] at hw
  exact ⟨m, rfl, hw⟩
theorem ints_of : ∀ (n : Nat) (xs : List AV), TyFs (TyR Try.prog 7) (List.replicate n 2) xs → ∃ l : List Int, l.length = n ∧ xs = l.map (.int .i64)
  | 0, xs, h => by simp only [List.replicate, TyFs] at h; exact ⟨[], rfl, h⟩
  | n + 1, xs, h => by
    simp only [List.replicate, TyFs, TyR, Try.underlying2] at h
    obtain ⟨_, _, rfl, ⟨m, rfl, _⟩, h⟩ := h
    obtain ⟨l, hl, rfl⟩ := ints_of n _ h
    exact ⟨m :: l, by simp [hl], rfl⟩
theorem shape24 {x : AV} (h : TyV Try.prog 9 24 x) : ∃ c : Cpu, x = .agg c.cells := by
  simp only [TyV, TyR, Try.underlying24, Try.underlying22, Try.underlying3] at h
  obtain ⟨cs, rfl, h⟩ := h
  simp only [List.map_cons, List.map_nil, TyFs, TyR, Try.underlying22, Try.underlying3] at h
  obtain ⟨_, _, rfl, ⟨m, rfl, _⟩, _, _, rfl, h, rfl⟩ := h
  obtain ⟨l, hl, rfl⟩ := ints_of 8 _ h
  exact ⟨⟨m, l, hl⟩, by simp [Cpu.cells]⟩
theorem shape29 {x : AV} (h : TyV Try.prog 9 29 x) : ∃ l : List UInt8, x = .list 1 (l.map byte) := by
  simp only [TyV, TyR, tu29, tu5, tc5, List.cons.injEq, and_true] at h
  obtain ⟨rows, rfl, _, h⟩ := h
  have : ∀ rows : List (List AV), (∀ row ∈ rows, ∃ m, row = [.int .u8 m] ∧ (Lit.int .u8 m).wf = true) → ∃ l : List UInt8, rows = l.map byte := by
    intro rows
    induction rows with
    | nil => exact fun _ => ⟨[], rfl⟩
    | cons r rs ih =>
      intro h
      obtain ⟨l, hl⟩ := ih fun row hr => h row (by simp [hr])
      obtain ⟨m, rfl, hw⟩ := h r (by simp)
      simp only [Lit.wf, Bool.and_eq_true, decide_eq_true_eq] at hw
      have e1 : IntKind.u8.min = 0 := by decide
      have e2 : IntKind.u8.max = 255 := by decide
      rw [e1, e2] at hw
      refine ⟨UInt8.ofNat m.toNat :: l, ?_⟩
      have : ((UInt8.ofNat m.toNat).toNat : Int) = m := by
        rw [UInt8.toNat_ofNat_of_lt' (by show m.toNat < 256; omega)]
        omega
      rw [List.map_cons, byte, this, hl]
  obtain ⟨l, rfl⟩ := this rows h
  exact ⟨l, rfl⟩
set_option maxRecDepth 100000 in
theorem cpuChanges_lifted (os : Os) (started : os.Started) (H : Type) (enc : TypeId × Value → H) :
    ReturnsInHanded {} Try.checked os 4 .any (Rows.cpuChangesSpec.pre6 enc Try.prog Try.f4 Rows.cpuChangesRow.domain false) (Rows.cpuChangesSpec.post enc Try.prog Try.f4 false true false false) := by
  refine returnsInHanded_of_change (C := Try.checked) Try.own started (by kernel_rfl) Try.func4
    (ChangeSpec.witness6 (enc := enc) (C := Try.checked) false ⟨#[], #[.agg #[.int .i64 0, .int .i64 0, .int .i64 0, .int .i64 0, .int .i64 0, .int .i64 0, .int .i64 0, .int .i64 0, .int .i64 0], .slice none 0 0, .int .u8 0], []⟩ 8 (by kernel_rfl) (by kernel_rfl) (by kernel_rfl) (by kernel_rfl)) ?_
  intro W base args ds gs before hval hW _ _
  obtain ⟨p, q, hA, _⟩ := id hW
  obtain ⟨xs, hx, hr⟩ := TrodAll_rep (n := 9) _ _ _ _ (by rw [Try.params4]; exact List.all_eq_true.1 (by kernel_rfl)) (fun j t v h1 h2 => hval j t v (by simpa using h1) (by simpa using h2)) hA
  rw [Try.params4] at hx
  simp only [TyFs] at hx
  obtain ⟨_, _, rfl, ⟨x0, rfl, hx0⟩, _, _, rfl, ⟨x1, rfl, hx1⟩, _, _, rfl, ⟨x2, rfl, hx2⟩, rfl⟩ := hx
  obtain ⟨c, rfl⟩ := shape24 hx0
  obtain ⟨l, rfl⟩ := shape29 hx1
  obtain ⟨n, rfl, h0, h1⟩ := shape5 hx2
  exact law_calls (fn := Try.f4) lawC_ok Try.laidOut (by
      rw [Try.params4]
      intro t ht
      have h1 : ∀ t ∈ (Func.params Try.f4).toList, Try.prog.readableRec t = true := List.all_eq_true.1 (by kernel_rfl)
      have h2 : ∀ t ∈ (Func.params Try.f4).toList, decide (t < Try.prog.types.size) = true := List.all_eq_true.1 (by kernel_rfl)
      rw [Try.params4] at h1 h2
      exact ⟨h1 t ht, of_decide_eq_true (h2 t ht)⟩) rfl tu4 rfl (fun ds h => by
    match ds, h with
    | [d0, d1, d2], _ => rfl) hW hr (mkS_eq (enc := encCh) (fun _ _ _ => rfl) (c, l, ⟨n, h0, h1⟩))
theorem cpuChanges_holds : Rows.CpuChangesSaid :=
  OpenClaim.holds_of_wide 4 Try.f4 rfl rfl rfl rfl rfl rfl rfl ⟨rfl, rfl, rfl, rfl, rfl⟩ rfl rfl rfl rfl rfl (by kernel_rfl) Try.func4 (by kernel_rfl)
    (of_decide_eq_true (by kernel_rfl)) (by unfold Func.isWrapper; first | (rw [if_pos (by decide +kernel)]; kernel_rfl) | (rw [if_neg (by decide +kernel)]; exact ⟨rfl, rfl⟩))
    (fun os started H enc _ => cpuChanges_lifted os started H enc)
end Go.Proofs.Ytldfmgiglcajcaa
