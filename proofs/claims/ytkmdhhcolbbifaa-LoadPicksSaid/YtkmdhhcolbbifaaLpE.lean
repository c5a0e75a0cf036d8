/- The statement LoadPicksSaid: for every input the law answers true and leaves its arguments as they were. Conditions: none. -/
import Derived.Test.YtkmdhhcolbbifaaLpD
import Derived.Test.YtkmdhhcolbbifaaAbsZ
import Derived.Test.YtkmdhhcolbbifaaRows
namespace Go.Proofs.Ytkmdhhcolbbifaa
open Go.ChangeShapes Go.WideShapes Go.ChangeAt Go.RowKit Go.Abs Go.Abs.Lp
theorem Try.own : ownKnob Try.prog.godebug = none := by kernel_rfl
theorem Try.laidOut : laidOutB Try.prog = true := by kernel_rfl
theorem plain22 : plainT Try.prog 9 22 = true := by kernel_rfl
theorem cells26 : Try.prog.cellsOf 26 = 3 := by kernel_rfl
theorem arg_shape {x : AV} (h : TyV Try.prog 9 22 x) : ∃ l : List Ld, x = .list 3 (l.map Ld.cells) := by
  simp only [TyV, TyR, Try.underlying22, Try.underlying26, Try.underlying3, cells26, List.cons.injEq, and_true] at h
  obtain ⟨rows, rfl, _, h⟩ := h
  have : ∀ rows : List (List AV), (∀ row ∈ rows, TyFs (TyR Try.prog 7) [3, 3, 3] row) → ∃ l : List Ld, rows = l.map Ld.cells := by
    intro rows
    induction rows with
    | nil => exact fun _ => ⟨[], rfl⟩
    | cons r rs ih =>
      intro h
      obtain ⟨l, hl⟩ := ih fun row hr => h row (by simp [hr])
      have h0 := h r (by simp)
      simp only [TyFs, TyR, Try.underlying3] at h0
      obtain ⟨_, _, rfl, ⟨a, rfl, _⟩, _, _, rfl, ⟨b, rfl, _⟩, _, _, rfl, ⟨c, rfl, _⟩, rfl⟩ := h0
      exact ⟨⟨a, b, c⟩ :: l, by simp [hl, Ld.cells]⟩
  obtain ⟨l, rfl⟩ := this rows h
  exact ⟨l, rfl⟩
set_option maxRecDepth 100000 in
theorem loadPicks_lifted (os : Os) (started : os.Started) (H : Type) (enc : TypeId × Value → H) :
    ReturnsInHanded {} Try.checked os 3 .any (Rows.loadPicksSpec.pre6 enc Try.prog Try.f3 Rows.loadPicksRow.domain false) (Rows.loadPicksSpec.post enc Try.prog Try.f3 false true false false) := by
  refine returnsInHanded_of_change (C := Try.checked) Try.own started (by kernel_rfl) Try.func3
    (ChangeSpec.witness6 (enc := enc) (C := Try.checked) false ⟨#[], #[.slice none 0 0], []⟩ 8 (by kernel_rfl) (by kernel_rfl) (by kernel_rfl) (by kernel_rfl)) ?_
  intro W base args ds gs before hval hW _ _
  obtain ⟨p, q, hA, _⟩ := id hW
  obtain ⟨xs, hx, hr⟩ := TrodAll_rep (n := 9) _ _ _ _ (by rw [Try.params3]; simp; exact plain22) (fun j t v h1 h2 => hval j t v (by simpa using h1) (by simpa using h2)) hA
  rw [Try.params3] at hx
  simp only [TyFs] at hx
  obtain ⟨_, _, rfl, ⟨x, rfl, hx⟩, rfl⟩ := hx
  obtain ⟨l, rfl⟩ := arg_shape hx
  exact law_calls (fn := Try.f3) law_ok Try.laidOut (by
      rw [Try.params3]
      intro t ht
      have : t = 22 := by simpa using ht
      subst this
      exact ⟨by kernel_rfl, of_decide_eq_true (by kernel_rfl)⟩) rfl tu4 rfl (fun ds h => by
    match ds, h with
    | [d], _ => rfl) hW hr (mkS_eq (fun _ _ _ => rfl) l)
theorem loadPicks_holds : Rows.LoadPicksSaid :=
  OpenClaim.holds_of_wide 3 Try.f3 rfl rfl rfl rfl rfl rfl rfl ⟨rfl, rfl, rfl, rfl, rfl⟩ rfl rfl rfl rfl rfl (by kernel_rfl) Try.func3 (by kernel_rfl)
    (of_decide_eq_true (by kernel_rfl)) (by unfold Func.isWrapper; first | (rw [if_pos (by decide +kernel)]; kernel_rfl) | (rw [if_neg (by decide +kernel)]; exact ⟨rfl, rfl⟩))
    (fun os started H enc _ => loadPicks_lifted os started H enc)
end Go.Proofs.Ytkmdhhcolbbifaa
