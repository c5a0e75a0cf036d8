/- What the law 'LoadPicks' answers. Conditions: none. -/
import Derived.Test.YtkmdhhcolbbifaaLpC
import Derived.Test.YtkmdhhcolbbifaaAbsX
namespace Go.Abs.Lp
open Go Go.Proofs Go.Abs
set_option maxRecDepth 100000
set_option maxHeartbeats 4000000
theorem tN : Try.prog.funcs.all (fun fn => !(fn.name == "runtime.NumGoroutine")) = true := by kernel_rfl
theorem sane_run : runFn Try.prog 1000 10 4 [] [] = some (.bool true, []) := by kernel_rfl
theorem sane_ok : FnC Try.prog 4 (runFn Try.prog 1000 10 4) := runFn_ok tm tN 10 4 Try.func4 rfl
theorem tg26 : Try.prog.eqGuardType Try.prog.depth 26 = false := by kernel_rfl
theorem te26 (a b c a' b' c' : Int) : eqV Try.prog 9 26 (.agg [.int .i64 a, .int .i64 b, .int .i64 c]) (.agg [.int .i64 a', .int .i64 b', .int .i64 c']) = some (a == a' && (b == b' && c == c')) := by
  simp [eqV, Try.underlying26, Try.underlying3, eqFs, partV, ta3]
theorem tu4 : Try.prog.underlying 4 = some .bool := by kernel_rfl
attribute [local simp] runL stepA execA skipA opC opA allocA boxA newRowA newId AV.cellsOf run_ret run_fail run_get run_put run_asm num lk st lk_st putA AS.ev AV.cellish AV.isInl ofValue ofFlat builtinA lenA binA binOpA loadA mkv storeA putCells frzL frz1 splice indexAddrA fieldAddrA buildA fillA runF gdst pickA unOpA extractA resVs resV pack frzT inlT inlV frzV frzVs callX callA brwVs brwV brw1 brwL AV.flat AV.flat1 AV.flat2 specOf tz26 ts26 ta26 ts3 ta3 Ld.cells calmS_eq spreadS_eq pickS_eq refPickS_eq pickV sane_run eqlA tg26 te26 tu4
noncomputable def law_specs : NL Spec := [(4, ⟨0, runFn Try.prog 1000 10 4⟩), (5, ⟨0, calmS⟩), (6, ⟨0, pickS⟩), (7, ⟨0, refPickS⟩), (8, ⟨0, spreadS⟩), (9, ⟨0, spreadS⟩)]
theorem law_specs_ok : ∀ p ∈ law_specs, FnC Try.prog p.1 p.2.fn := by
  simp only [law_specs, List.mem_cons, List.not_mem_nil, or_false]
  rintro p (rfl | rfl | rfl | rfl | rfl | rfl)
  · exact sane_ok
  · exact calm_ok
  · exact pick_ok
  · exact refPick_ok
  · exact spread_ok
  · exact refSpread_ok
attribute [local simp] law_specs
noncomputable def lawS : SpecFn := mkS encLs fun _ => (.bool true, [])
theorem law_ok : FnC Try.prog 3 lawS := by
  refine FnC.walk 3 (fn := Try.f3) Try.func3 rfl (by kernel_rfl) fun l => ?_
  change W _ _ _ _ ⟨46, [(0, .list 3 (l.map Ld.cells))], []⟩
  repeat (first | refine N.seq ?_ | refine N.blk ?_ | refine W.seq rfl ?_ | refine W.block rfl ?_ | refine W.skip rfl ?_ | refine W.ret rfl ?_ | refine N.nil ?_ | refine N.loop ?_ | refine W.exit rfl ?_ | refine X.seq ?_ | refine X.loop ?_ | refine X.hit ?_ | refine X.pass (by decide) ?_ | refine W.region tm law_specs_ok rfl (by conv => lhs; simp) fun _ => ?_ | refine W.regionD tm law_specs_ok rfl (by conv => lhs; simp) (by conv => lhs; simp) (by kernel_rfl) fun _ => ?_)
  refine W.cond rfl (by rfl) (fun hb => ?_) (fun hb => ?_)
  · simp at hb
  · repeat (first | refine N.seq ?_ | refine N.blk ?_ | refine W.seq rfl ?_ | refine W.block rfl ?_ | refine W.skip rfl ?_ | refine W.ret rfl ?_ | refine N.nil ?_ | refine N.loop ?_ | refine W.exit rfl ?_ | refine X.seq ?_ | refine X.loop ?_ | refine X.hit ?_ | refine X.pass (by decide) ?_ | refine W.region tm law_specs_ok rfl (by conv => lhs; simp) fun _ => ?_ | refine W.regionD tm law_specs_ok rfl (by conv => lhs; simp) (by conv => lhs; simp) (by kernel_rfl) fun _ => ?_)
    refine W.cond rfl (by rfl) (fun h1 => ?_) (fun h1 => ?_)
    · repeat (first | refine N.seq ?_ | refine N.blk ?_ | refine W.seq rfl ?_ | refine W.block rfl ?_ | refine W.skip rfl ?_ | refine W.ret rfl ?_ | refine N.nil ?_ | refine N.loop ?_ | refine W.exit rfl ?_ | refine X.seq ?_ | refine X.loop ?_ | refine X.hit ?_ | refine X.pass (by decide) ?_ | refine W.region tm law_specs_ok rfl (by conv => lhs; simp) fun _ => ?_ | refine W.regionD tm law_specs_ok rfl (by conv => lhs; simp) (by conv => lhs; simp) (by kernel_rfl) fun _ => ?_)
      exact Ret.data rfl (by conv => lhs; simp) (by conv => lhs; simp) (by rfl)
    · repeat (first | refine N.seq ?_ | refine N.blk ?_ | refine W.seq rfl ?_ | refine W.block rfl ?_ | refine W.skip rfl ?_ | refine W.ret rfl ?_ | refine N.nil ?_ | refine N.loop ?_ | refine W.exit rfl ?_ | refine X.seq ?_ | refine X.loop ?_ | refine X.hit ?_ | refine X.pass (by decide) ?_ | refine W.region tm law_specs_ok rfl (by conv => lhs; simp) fun _ => ?_ | refine W.regionD tm law_specs_ok rfl (by conv => lhs; simp) (by conv => lhs; simp) (by kernel_rfl) fun _ => ?_)
      exact Ret.data rfl (by conv => lhs; simp) (by conv => lhs; simp) (by rfl)
end Go.Abs.Lp
