/- Cutting a walk: what holds behind a part. Conditions: none. -/
import Derived.Test.YtldfmgiglcajcaaAbsU
namespace Go.Abs
open Go
variable {P : Program} {Q : AS → Prop}
/-- Behind the first part only 'M' is known. -/
theorem W.cut {c : Code} {fs : List Fr} {σ : AS} (hc : c = .seq (cL c) (cR c)) (M : AS → Prop) (h1 : W P Q (cL c) (.loop M :: fs) σ) (h2 : ∀ σ', M σ' → W P Q (cR c) fs σ') : W P Q c fs σ := by
  refine ⟨?_⟩
  rw [hc]
  refine WP.seq (h1.h.mono fun e σ h => ?_)
  cases e with
  | normal => exact (h2 σ h).h
  | _ => exact h
/-- Into a sequence whose first part is a region. -/
theorem W.seqR {c : Code} {fs : List Fr} {σ : AS} {id : Nat} {ops : Array Oper} {d : Bool} (hc : c = .seq (cL c) (cR c)) (_ : cL c = .region id ops d) (h : W P Q (cL c) (.seq (cR c) :: fs) σ) : W P Q c fs σ := W.seq hc h
end Go.Abs
