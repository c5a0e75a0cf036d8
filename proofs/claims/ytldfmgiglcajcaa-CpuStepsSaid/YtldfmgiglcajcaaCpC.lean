/- The statement on the ends of calls in the abstract frame. Conditions: none. -/
import Derived.Test.YtldfmgiglcajcaaCpB
namespace Go.Abs.Cp
open Go Go.Proofs Go.Abs
set_option maxRecDepth 100000
set_option maxHeartbeats 4000000
set_option linter.unusedSimpArgs false
set_option linter.unusedVariables false
theorem eight (l : List Int) (h : l.length = 8) : ∃ a b c d e f g i, l = [a, b, c, d, e, f, g, i] := by
  match l, h with
  | [a, b, c, d, e, f, g, i], _ => exact ⟨a, b, c, d, e, f, g, i, rfl⟩
theorem tc2 : Try.prog.cellsOf 2 = 1 := by kernel_rfl
theorem ti2 : (Try.prog.info? 2).isSome = true := by kernel_rfl
theorem eq24 (c d : Cpu) : eqV Try.prog 9 24 (.agg (.int .i64 c.pc :: c.r.map (.int .i64))) (.agg (.int .i64 d.pc :: d.r.map (.int .i64))) = some (decide (c.pc = d.pc ∧ c.r = d.r)) := by
  obtain ⟨a1, a2, a3, a4, a5, a6, a7, a8, ha⟩ := eight c.r c.h
  obtain ⟨b1, b2, b3, b4, b5, b6, b7, b8, hb⟩ := eight d.r d.h
  rw [ha, hb]
  simp [eqV, Try.underlying24, Try.underlying22, Try.underlying2, Try.underlying3, eqFs, eqIs, partV, ta3, ta2, ta22, ts22, ts2, List.range, List.range.loop, tc2, ti2]
  rw [Bool.eq_iff_iff]
  simp

theorem eq24r (c : Cpu) : eqV Try.prog 9 24 (.agg (.int .i64 c.pc :: c.r.map (.int .i64))) (.agg (.int .i64 c.pc :: c.r.map (.int .i64))) = some true := by rw [eq24]; simp
theorem tg24 : Try.prog.eqGuardType Try.prog.depth 24 = false := by kernel_rfl
theorem tu4 : Try.prog.underlying 4 = some .bool := by kernel_rfl
attribute [local simp] runL stepA execA_eq skipA run_ret run_fail run_get run_put run_asm num lk st lk_st putA AS.ev ofValue ofFlat mkv splice fieldAddrA buildA fillA runF gdst pickA unOpA extractA resVs resV pack frzT inlT inlV frzV frzVs frzL frz1 newId AV.cellsOf AV.flat AV.flat2 specOf loadA_runR renL fF handB renB AV.ren backF backL idsOf freshIds refsL refsB AV.refs List.range List.range.loop placesA sliceRows rowsOf convertA sliceArrA sliceA bndA nilCheckA arrayAtA mmA lookupA keyOf keyOK findA keyEqA foundA makeMapA mapUpdateA appendA rowsA indexA partA fieldA retE2 frqT frqV frqVs frqL frq1 reachE blkRefs outE nodupE firstE seqO expB2 expF tz24 ts24 ta24 ts22 ta22 ts3 ta3 ts2 ta2 mkv2 get_1_add take_1_add Cpu.cells Cpu.len Cpu.take frzL_ints brwL_ints inlT inlV eqlA tg24 eq24r sane_run
noncomputable def lawR_specs : NL Spec := [(8, ⟨0, runFn Try.prog 1000 10 8⟩), (16, ⟨0, loadedS⟩), (17, ⟨0, loadedS⟩), (18, ⟨0, storedS⟩), (19, ⟨0, storedS⟩), (20, ⟨0, returnedS⟩), (21, ⟨0, returnedS⟩), (22, ⟨0, returned2S⟩), (23, ⟨0, returned2S⟩)]
theorem lawR_specs_ok : ∀ p ∈ lawR_specs, FnC Try.prog p.1 p.2.fn := by
  simp only [lawR_specs, List.mem_cons, List.not_mem_nil, or_false]
  rintro p (rfl | rfl | rfl | rfl | rfl | rfl | rfl | rfl | rfl)
  · exact sane_ok
  · exact loaded_ok
  · exact rloaded_ok
  · exact stored_ok
  · exact rstored_ok
  · exact returned_ok
  · exact rreturned_ok
  · exact returned2_ok
  · exact rreturned2_ok
theorem returnedS_eq' (c : Cpu) (v : Int) : returnedS [.agg (.int .i64 c.pc :: c.r.map (.int .i64)), .int .i64 v] [] = some (.agg (.int .i64 (loaded c 0 v).pc :: (loaded c 0 v).r.map (.int .i64)), []) := returnedS_eq c v
theorem returned2S_eq' (c : Cpu) (a b : Int) : returned2S [.agg (.int .i64 c.pc :: c.r.map (.int .i64)), .int .i64 a, .int .i64 b] [] = some (.agg (.int .i64 (returned2 c a b).pc :: (returned2 c a b).r.map (.int .i64)), []) := returned2S_eq c a b
attribute [local simp] lawR_specs storedS_eq' loadedS_eq' returnedS_eq' returned2S_eq'
def encR (x : Cpu × Int × Int × Int) : List AV := [.agg x.1.cells, .int .i64 x.2.1, .int .i64 x.2.2.1, .int .i64 x.2.2.2]
noncomputable def lawRS : SpecFn := mkS encR fun _ => (.bool true, [])
theorem lawR_ok : FnC Try.prog 7 lawRS := by
  refine FnC.walk 7 (fn := Try.f7) Try.func7 rfl (by kernel_rfl) fun x => ?_
  obtain ⟨c, n, a, b⟩ := x
  change W _ _ _ _ ⟨60, [(0, .agg c.cells), (1, .int .i64 n), (2, .int .i64 a), (3, .int .i64 b)], []⟩
  repeat (first | refine N.seq ?_ | refine N.blk ?_ | refine W.seq rfl ?_ | refine W.block rfl ?_ | refine W.skip rfl ?_ | refine W.ret rfl ?_ | refine N.nil ?_ | refine N.loop ?_ | refine W.exit rfl ?_ | refine X.seq ?_ | refine X.loop ?_ | refine X.hit ?_ | refine X.pass (by decide) ?_ | refine W.region tm lawR_specs_ok rfl (by conv => lhs; simp) fun _ => ?_ | refine W.regionD tm lawR_specs_ok rfl (by conv => lhs; simp) (by conv => lhs; simp) (by kernel_rfl) fun _ => ?_)
  refine W.cond rfl (by rfl) (fun hb => ?_) (fun hb => ?_)
  · simp at hb
  · repeat (first | refine N.seq ?_ | refine N.blk ?_ | refine W.seq rfl ?_ | refine W.block rfl ?_ | refine W.skip rfl ?_ | refine W.ret rfl ?_ | refine N.nil ?_ | refine N.loop ?_ | refine W.exit rfl ?_ | refine X.seq ?_ | refine X.loop ?_ | refine X.hit ?_ | refine X.pass (by decide) ?_ | refine W.region tm lawR_specs_ok rfl (by conv => lhs; simp) fun _ => ?_ | refine W.regionD tm lawR_specs_ok rfl (by conv => lhs; simp) (by conv => lhs; simp) (by kernel_rfl) fun _ => ?_)
    first | exact Ret.dataR rfl (by conv => lhs; simp) (by conv => lhs; simp) (by first | rfl | simp [inlT, inlV]) | fail "no return here"
end Go.Abs.Cp
