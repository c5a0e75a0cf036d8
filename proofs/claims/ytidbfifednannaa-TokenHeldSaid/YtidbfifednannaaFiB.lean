/- The examples that the statements check first. Conditions: none. -/
import Derived.Test.YtidbfifednannaaFiA
namespace Go.Abs.Fi
open Go Go.Proofs Go.Abs
set_option maxRecDepth 100000
def base : NL SpecFn := [(118, cloneC 3 1 8), (119, cloneC 109 2 16), (107, deleteC 125 41), (98, deleteC 113 4), (109, cloneC 125 41 496)]
theorem base_ok : ∀ f S, lk base f = some S → FnC Try.prog f S := by
  intro f S h
  simp only [base, lk] at h
  split at h
  · rename_i e; subst e; cases h; exact clone118_ok
  split at h
  · rename_i e; subst e; cases h; exact clone119_ok
  split at h
  · rename_i e; subst e; cases h; exact delete107_ok
  split at h
  · rename_i e; subst e; cases h; exact delete98_ok
  split at h
  · rename_i e; subst e; cases h; exact clone109_ok
  · cases h
noncomputable def run (f : FuncId) : SpecFn := runB Try.prog base 1000 40 f
theorem run_ok (f : FuncId) {fn : Func} {body : Code} (hf : Try.prog.funcs[f]? = some fn) (hb : fn.body = some body) : FnC Try.prog f (run f) := runB_ok base_ok tm tN 40 f hf hb
noncomputable def pf (f : FuncId) : SpecFn := pureS (run f)
theorem pf_ok (f : FuncId) {fn : Func} {body : Code} (hf : Try.prog.funcs[f]? = some fn) (hb : fn.body = some body) : FnC Try.prog f (pf f) := FnC.pure (run_ok f hf hb)
end Go.Abs.Fi
