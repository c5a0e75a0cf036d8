/- Cutting a walk: what holds behind a part. Conditions: none. -/
import Derived.Test.YtidbfifednannaaAbsU
namespace Go.Abs
open Go
variable {P : Program} {Q : AS → Prop}
/-- Behind the first part only 'M' is known. -/
theorem W.cut {c : Code} {fs : List Fr} {σ : AS} (hc : c = .seq (cL c) (cR c)) (M : AS → Prop) (h1 : W P Q (cL c) (.loop M :: fs) σ) (h2 : ∀ σ', M σ' → W P Q (cR c) fs σ') : W P Q c fs σ := by
  refine ⟨?_⟩
  rw [hc]
  refine WP.seq (h1.h.mono fun e σ h => ?_)
  cases e with
  | normal => exact (h2 σ h).h
  | _ => exact h
/-- Into a sequence whose first part is a region. -/
theorem W.seqR {c : Code} {fs : List Fr} {σ : AS} {id : Nat} {ops : Array Oper} {d : Bool} (hc : c = .seq (cL c) (cR c)) (_ : cL c = .region id ops d) (h : W P Q (cL c) (.seq (cR c) :: fs) σ) : W P Q c fs σ := W.seq hc h
/-! ### Slice literals whose parts are made to stay first -/
def partsR : List (Nat × AV) → NL ABlk → Option (Out (List (Nat × AV)))
  | [], H => some ⟨[], H, [], [], True⟩
  | (i, x) :: r, H => nxt (valR frz0R x H) fun x' H' => nxt (partsR r H') fun r' H'' => some ⟨(i, x') :: r', H'', [], [], True⟩
theorem frzP_run : ∀ (l : List (Nat × AV)) (k : List (Nat × AV) → AP AV) (H : NL ABlk), (frzP l k).run H = nxt (partsR l H) fun x H => (k x).run H
  | [], k, H => by simp [frzP, partsR]
  | (i, x) :: r, k, H => by
    simp only [frzP, partsR, nxt_assoc, nxt_some]
    rw [frzV_run]
    congr 1; funext x' H'
    rw [frzP_run r]
@[simp ↓] theorem buildSliceA_runV (P : Program) (dst : Nat) (t : TypeId) (len : Nat) (parts : List (Nat × AV)) (H : NL ABlk) : (buildSliceA P dst t len parts).run H = nxt (partsR parts H) fun ps H' => sliceNewR P dst t len ps H' := by
  unfold buildSliceA
  rw [frzP_run]
  congr 1; funext ps H'
  unfold sliceNewR
  cases P.underlying t with
  | none => rfl
  | some d =>
    cases d with
    | slice elem =>
      dsimp only
      cases szOf P elem with
      | none => rfl
      | some s =>
        cases (zeroA P elem).bind AV.cellsOf with
        | none => rfl
        | some z =>
          dsimp only
          by_cases h1 : 0 < s ∧ z.length = s ∧ len * s ≤ 2 ^ 24 ∧ len ≤ maxLen
          · simp only [if_pos h1]
            cases sliceRows s len z ps with
            | none => rfl
            | some rows =>
              dsimp only
              rw [newRow_run]
              simp only [h1.1, true_and, Bool.not_true, Bool.false_or]
          · simp only [if_neg h1]; rfl
    | _ => rfl
attribute [simp] partsR
end Go.Abs
