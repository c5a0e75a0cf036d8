/- The statement PolicyDecidesSaid: for every input the law answers true and leaves its arguments as they were. Conditions: none. -/
import Derived.Test.YtkalkcgbecbgpaaPo8
import Derived.Test.YtkalkcgbecbgpaaAb8
import Derived.Test.YtkalkcgbecbgpaaRows
namespace Go.Proofs.Ytkalkcgbecbgpaa
set_option maxRecDepth 100000
set_option linter.unusedSimpArgs false
set_option linter.unusedVariables false
open Go.ChangeShapes Go.WideShapes Go.ChangeAt Go.RowKit Go.Abs Go.Abs.Po
theorem Try.own : ownKnob Try.prog.godebug = none := by kernel_rfl
theorem Try.laidOut : laidOutB Try.prog = true := by kernel_rfl
theorem tu4 : Try.prog.underlying 4 = some .bool := by kernel_rfl
theorem cells3 : Try.prog.cellsOf 3 = 1 := by kernel_rfl
theorem shape22 {x : AV} (h : TyV Try.prog 9 22 x) : ∃ L : List Int, L.length ≤ maxLen ∧ (∀ n ∈ L, (Lit.int .i64 n).wf = true) ∧ x = .list 1 (L.map fun n => [.int .i64 n]) := by
  simp only [TyV, TyR, Try.underlying22, Try.underlying3, cells3, List.cons.injEq, and_true] at h
  obtain ⟨rows, rfl, hl, h⟩ := h
  have : ∀ rows : List (List AV), (∀ row ∈ rows, ∃ m, row = [.int .i64 m] ∧ (Lit.int .i64 m).wf = true) → ∃ L : List Int, (∀ n ∈ L, (Lit.int .i64 n).wf = true) ∧ rows = L.map fun n => [.int .i64 n] := by
    intro rows
    induction rows with
    | nil => exact fun _ => ⟨[], by simp, rfl⟩
    | cons r rs ih =>
      intro h
      obtain ⟨l, hw, hl⟩ := ih fun row hr => h row (by simp [hr])
      obtain ⟨m, rfl, hm⟩ := h r (by simp)
      exact ⟨m :: l, by simpa using ⟨hm, hw⟩, by simp [hl]⟩
  obtain ⟨L, hw, rfl⟩ := this rows h
  exact ⟨L, by simpa using hl, hw, rfl⟩
theorem rows_of {β : Type} {f : β → List AV} {Q : β → Prop} : ∀ {rows : List (List AV)}, (∀ row ∈ rows, ∃ y, row = f y ∧ Q y) → ∃ L : List β, rows = L.map f ∧ ∀ y ∈ L, Q y
  | [], _ => ⟨[], rfl, by simp⟩
  | r :: rs, h => by
    obtain ⟨L, h1, h2⟩ := rows_of fun row hr => h row (List.mem_cons_of_mem _ hr)
    obtain ⟨y, h3, h4⟩ := h r (by simp)
    refine ⟨y :: L, by rw [h1, h3]; rfl, fun z hz => ?_⟩
    rcases List.mem_cons.1 hz with rfl | hz
    · exact h4
    · exact h2 z hz
theorem cells30 : Try.prog.cellsOf 30 = 1 := by kernel_rfl
theorem cells55 : Try.prog.cellsOf 55 = 1 := by kernel_rfl
theorem cells29 : Try.prog.cellsOf 29 = 3 := by kernel_rfl
theorem shape23 {x : AV} (h : TyV Try.prog 9 23 x) : ∃ R : List (List Int), R.length ≤ maxLen ∧ (∀ g ∈ R, g.length ≤ maxLen) ∧ x = .list 1 (R.map gL) := by
  simp only [TyV, TyR, Try.underlying23, Try.underlying30, Try.underlying55, cells30, cells55, List.cons.injEq, and_true] at h
  obtain ⟨rows, rfl, hl, h⟩ := h
  obtain ⟨R, rfl, hR⟩ := rows_of (f := gL) (Q := fun g => g.length ≤ maxLen) (rows := rows) fun row hr => by
    obtain ⟨rs, rfl, hrl, hrs⟩ := h row hr
    obtain ⟨g, rfl, _⟩ := rows_of (f := uc) (Q := fun _ => True) (rows := rs) fun r hr => by
      obtain ⟨m, rfl, _⟩ := hrs r hr
      exact ⟨m, rfl, trivial⟩
    exact ⟨g, rfl, by simpa using hrl⟩
  exact ⟨R, by simpa using hl, hR, rfl⟩
theorem shape24 {x : AV} (h : TyV Try.prog 9 24 x) : ∃ R : List Ld, R.length ≤ maxLen ∧ x = .list 3 (R.map Ld.cells) := by
  simp only [TyV, TyR, Try.underlying24, Try.underlying29, cells29, List.cons.injEq, and_true] at h
  obtain ⟨rows, rfl, hl, h⟩ := h
  obtain ⟨R, rfl, _⟩ := rows_of (f := Ld.cells) (Q := fun _ => True) (rows := rows) fun row hr => by
    have h := h row hr
    simp only [List.map_cons, List.map_nil, TyFs, TyR, Try.underlying3] at h
    obtain ⟨_, _, rfl, ⟨a, rfl, _⟩, _, _, rfl, ⟨b, rfl, _⟩, _, _, rfl, ⟨c, rfl, _⟩, rfl⟩ := h
    exact ⟨⟨a, b, c⟩, rfl, trivial⟩
  exact ⟨R, by simpa using hl, rfl⟩
theorem shape26 {x : AV} (h : TyV Try.prog 9 26 x) : ∃ t : Tm, x = .agg t.cells := by
  simp only [TyV, TyR, Try.underlying26] at h
  obtain ⟨cs, rfl, h⟩ := h
  simp only [List.map_cons, List.map_nil, TyFs, TyR, Try.underlying3] at h
  obtain ⟨_, _, rfl, ⟨a, rfl, _⟩, _, _, rfl, ⟨b, rfl, _⟩, _, _, rfl, ⟨c, rfl, _⟩, rfl⟩ := h
  exact ⟨⟨a, b, c⟩, rfl⟩
set_option maxRecDepth 100000 in
theorem policyDecides_lifted (os : Os) (started : os.Started) (H : Type) (enc : TypeId × Value → H) :
    ReturnsInHanded {} Try.checked os 3 .any (Rows.policyDecidesSpec.pre6 enc Try.prog Try.f3 Rows.policyDecidesRow.domain false) (Rows.policyDecidesSpec.post enc Try.prog Try.f3 false true false false) := by
  refine returnsInHanded_of_change (C := Try.checked) Try.own started (by kernel_rfl) Try.func3
    (ChangeSpec.witness6 (enc := enc) (C := Try.checked) false ⟨#[], #[.slice none 0 0, .slice none 0 0, .slice none 0 0, .slice none 0 0, .agg #[.int .i64 0, .int .i64 0, .int .i64 0]], []⟩ 8 (by kernel_rfl) (by kernel_rfl) (by kernel_rfl) (by kernel_rfl)) ?_
  intro W base args ds gs before hval hW _ _
  obtain ⟨p, q, hA, _⟩ := id hW
  obtain ⟨xs, hx, hr⟩ := TrodAll_rep (n := 9) _ _ _ _ (by rw [Try.params3]; exact List.all_eq_true.1 (by kernel_rfl)) (fun j t v h1 h2 => hval j t v (by simpa using h1) (by simpa using h2)) hA
  rw [Try.params3] at hx
  simp only [TyFs] at hx
  obtain ⟨_, _, rfl, ⟨x0, rfl, hx0⟩, _, _, rfl, ⟨x1, rfl, hx1⟩, _, _, rfl, ⟨x2, rfl, hx2⟩, _, _, rfl, ⟨x3, rfl, hx3⟩, _, _, rfl, ⟨x4, rfl, hx4⟩, rfl⟩ := hx
  obtain ⟨L, hL, _, rfl⟩ := shape22 hx0
  obtain ⟨M, hM, _, rfl⟩ := shape22 hx1
  obtain ⟨R, hR, hR2, rfl⟩ := shape23 hx2
  obtain ⟨D, hD, rfl⟩ := shape24 hx3
  obtain ⟨t, rfl⟩ := shape26 hx4
  exact law_calls (fn := Try.f3) decd_ok Try.laidOut (by
      rw [Try.params3]
      intro t ht
      have h1 : ∀ t ∈ (Func.params Try.f3).toList, Try.prog.readableRec t = true := List.all_eq_true.1 (by kernel_rfl)
      have h2 : ∀ t ∈ (Func.params Try.f3).toList, decide (t < Try.prog.types.size) = true := List.all_eq_true.1 (by kernel_rfl)
      rw [Try.params3] at h1 h2
      exact ⟨h1 t ht, of_decide_eq_true (h2 t ht)⟩) rfl tu4 rfl (fun ds h => by
    match ds, h with
    | [d0, d1, d2, d3, d4], _ => rfl) hW hr (mkS_eq (enc := encDw) (encDw_inj fun _ _ => rfl) ⟨L, M, R, D, t, hL, hM, hR, hD, hR2⟩)
theorem policyDecides_holds : Rows.PolicyDecidesSaid :=
  OpenClaim.holds_of_wide 3 Try.f3 rfl rfl rfl rfl rfl rfl rfl ⟨rfl, rfl, rfl, rfl, rfl⟩ rfl rfl rfl rfl rfl (by kernel_rfl) Try.func3 (by kernel_rfl)
    (of_decide_eq_true (by kernel_rfl)) (by unfold Func.isWrapper; first | (rw [if_pos (by decide +kernel)]; kernel_rfl) | (rw [if_neg (by decide +kernel)]; exact ⟨rfl, rfl⟩))
    (fun os started H enc _ => policyDecides_lifted os started H enc)

end Go.Proofs.Ytkalkcgbecbgpaa
