/- What the ends of calls compute, and the statement on them. Conditions: none. -/
import Derived.Test.YtldfmgiglcajcaaCpA
namespace Go.Abs.Cp
open Go Go.Proofs Go.Abs
set_option maxRecDepth 100000
set_option maxHeartbeats 4000000
set_option linter.unusedSimpArgs false
set_option linter.unusedVariables false
attribute [local simp] runL stepA execA_eq skipA run_ret run_fail run_get run_put run_asm num lk st lk_st putA AS.ev ofValue ofFlat mkv splice fieldAddrA buildA fillA runF gdst pickA unOpA extractA resVs resV pack frzT inlT inlV frzV frzVs frzL frz1 newId AV.cellsOf AV.flat AV.flat2 specOf loadA_runR renL fF handB renB AV.ren backF backL idsOf freshIds refsL refsB AV.refs List.range List.range.loop placesA sliceRows rowsOf convertA sliceArrA sliceA bndA nilCheckA arrayAtA mmA lookupA keyOf keyOK findA keyEqA foundA makeMapA mapUpdateA appendA rowsA indexA partA fieldA retE2 frqT frqV frqVs frqL frq1 reachE blkRefs outE nodupE firstE seqO expB2 expF tz24 ts24 ta24 ts22 ta22 ts3 ta3 ts2 ta2 mkv2 get_1_add take_1_add Cpu.cells Cpu.len Cpu.take frzL_ints brwL_ints inlT inlV st_specs storedS_eq' storedS_set regS_eq
theorem rloaded_ok : FnC Try.prog 17 loadedS := by
  refine FnC.walk 17 (fn := Try.f17) Try.func17 rfl (by kernel_rfl) fun x => ?_
  obtain ⟨c, n, v⟩ := x
  change W _ _ _ _ ⟨15, [(0, .agg c.cells), (1, .int .i64 n), (2, .int .i64 v)], []⟩
  repeat (first | refine N.seq ?_ | refine N.blk ?_ | refine W.seq rfl ?_ | refine W.block rfl ?_ | refine W.skip rfl ?_ | refine W.ret rfl ?_ | refine N.nil ?_ | refine N.loop ?_ | refine W.exit rfl ?_ | refine X.seq ?_ | refine X.loop ?_ | refine X.hit ?_ | refine X.pass (by decide) ?_ | refine W.region tm st_specs_ok rfl (by conv => lhs; simp) fun _ => ?_ | refine W.regionD tm st_specs_ok rfl (by conv => lhs; simp) (by conv => lhs; simp) (by kernel_rfl) fun _ => ?_)
  refine W.cond rfl (by rfl) (fun hr => ?_) (fun hr => ?_)
  · obtain ⟨k, rfl, hk⟩ := reg_nat hr
    have : (k : Int) < 8 := by omega
    have hs := c.set_map v hk
    have hl : 1 + k + 1 ≤ 8 + 1 := by omega
    repeat (first | refine N.seq ?_ | refine N.blk ?_ | refine W.seq rfl ?_ | refine W.block rfl ?_ | refine W.skip rfl ?_ | refine W.ret rfl ?_ | refine N.nil ?_ | refine N.loop ?_ | refine W.exit rfl ?_ | refine X.seq ?_ | refine X.loop ?_ | refine X.hit ?_ | refine X.pass (by decide) ?_ | refine W.region tm st_specs_ok rfl (by conv => lhs; simp [this, hs, hl]) fun _ => ?_ | refine W.regionD tm st_specs_ok rfl (by conv => lhs; simp [this, hs, hl]) (by conv => lhs; simp) (by kernel_rfl) fun _ => ?_)
    simp only [loaded, hr, if_true, Int.toNat_natCast, Cpu.cells]
    first | exact Ret.dataR rfl (by conv => lhs; simp) (by conv => lhs; simp) (by first | rfl | simp [inlT, inlV]) | fail "no return here"
  · repeat (first | refine N.seq ?_ | refine N.blk ?_ | refine W.seq rfl ?_ | refine W.block rfl ?_ | refine W.skip rfl ?_ | refine W.ret rfl ?_ | refine N.nil ?_ | refine N.loop ?_ | refine W.exit rfl ?_ | refine X.seq ?_ | refine X.loop ?_ | refine X.hit ?_ | refine X.pass (by decide) ?_ | refine W.region tm st_specs_ok rfl (by conv => lhs; simp) fun _ => ?_ | refine W.regionD tm st_specs_ok rfl (by conv => lhs; simp) (by conv => lhs; simp) (by kernel_rfl) fun _ => ?_)
    simp only [loaded, hr, Bool.false_eq_true, if_false, Cpu.cells]
    first | exact Ret.dataR rfl (by conv => lhs; simp) (by conv => lhs; simp) (by first | rfl | simp [inlT, inlV]) | fail "no return here"
theorem loadedS_eq' (c : Cpu) (n v : Int) : loadedS [.agg (.int .i64 c.pc :: c.r.map (.int .i64)), .int .i64 n, .int .i64 v] [] = some (.agg (.int .i64 (loaded c n v).pc :: (loaded c n v).r.map (.int .i64)), []) := loadedS_eq c n v
theorem loadedS_set (c : Cpu) (k : Nat) (u n v : Int) : loadedS [.agg (.int .i64 c.pc :: (c.set k u).r.map (.int .i64)), .int .i64 n, .int .i64 v] [] = some (.agg (.int .i64 (loaded (c.set k u) n v).pc :: (loaded (c.set k u) n v).r.map (.int .i64)), []) := loadedS_eq (c.set k u) n v
noncomputable def ld_specs : NL Spec := [(16, ⟨0, loadedS⟩), (17, ⟨0, loadedS⟩)]
theorem ld_specs_ok : ∀ p ∈ ld_specs, FnC Try.prog p.1 p.2.fn := by
  simp only [ld_specs, List.mem_cons, List.not_mem_nil, or_false]
  rintro p (rfl | rfl)
  · exact loaded_ok
  · exact rloaded_ok
attribute [local simp] ld_specs loadedS_eq' loadedS_set
noncomputable def returnedS : SpecFn := mkS encCI fun x => (.agg (loaded x.1 0 x.2).cells, [])
theorem returnedS_eq (c : Cpu) (v : Int) : returnedS [.agg c.cells, .int .i64 v] [] = some (.agg (loaded c 0 v).cells, []) := mkS_eq encCI_inj (c, v)
theorem returned_ok : FnC Try.prog 20 returnedS := by
  refine FnC.walk 20 (fn := Try.f20) Try.func20 rfl (by kernel_rfl) fun x => ?_
  obtain ⟨c, v⟩ := x
  change W _ _ _ _ ⟨8, [(0, .agg c.cells), (1, .int .i64 v)], []⟩
  repeat (first | refine N.seq ?_ | refine N.blk ?_ | refine W.seq rfl ?_ | refine W.block rfl ?_ | refine W.skip rfl ?_ | refine W.ret rfl ?_ | refine N.nil ?_ | refine N.loop ?_ | refine W.exit rfl ?_ | refine X.seq ?_ | refine X.loop ?_ | refine X.hit ?_ | refine X.pass (by decide) ?_ | refine W.region tm ld_specs_ok rfl (by conv => lhs; simp) fun _ => ?_ | refine W.regionD tm ld_specs_ok rfl (by conv => lhs; simp) (by conv => lhs; simp) (by kernel_rfl) fun _ => ?_)
  simp only [Cpu.cells]
  first | exact Ret.dataR rfl (by conv => lhs; simp) (by conv => lhs; simp) (by first | rfl | simp [inlT, inlV]) | fail "no return here"
theorem rreturned_ok : FnC Try.prog 21 returnedS := by
  refine FnC.walk 21 (fn := Try.f21) Try.func21 rfl (by kernel_rfl) fun x => ?_
  obtain ⟨c, v⟩ := x
  change W _ _ _ _ ⟨8, [(0, .agg c.cells), (1, .int .i64 v)], []⟩
  repeat (first | refine N.seq ?_ | refine N.blk ?_ | refine W.seq rfl ?_ | refine W.block rfl ?_ | refine W.skip rfl ?_ | refine W.ret rfl ?_ | refine N.nil ?_ | refine N.loop ?_ | refine W.exit rfl ?_ | refine X.seq ?_ | refine X.loop ?_ | refine X.hit ?_ | refine X.pass (by decide) ?_ | refine W.region tm ld_specs_ok rfl (by conv => lhs; simp) fun _ => ?_ | refine W.regionD tm ld_specs_ok rfl (by conv => lhs; simp) (by conv => lhs; simp) (by kernel_rfl) fun _ => ?_)
  simp only [Cpu.cells]
  first | exact Ret.dataR rfl (by conv => lhs; simp) (by conv => lhs; simp) (by first | rfl | simp [inlT, inlV]) | fail "no return here"
theorem returnedS_set (c : Cpu) (k : Nat) (u v : Int) : returnedS [.agg (.int .i64 c.pc :: (c.set k u).r.map (.int .i64)), .int .i64 v] [] = some (.agg (.int .i64 (loaded (c.set k u) 0 v).pc :: (loaded (c.set k u) 0 v).r.map (.int .i64)), []) := returnedS_eq (c.set k u) v
noncomputable def rt_specs : NL Spec := [(17, ⟨0, loadedS⟩), (20, ⟨0, returnedS⟩)]
theorem rt_specs_ok : ∀ p ∈ rt_specs, FnC Try.prog p.1 p.2.fn := by
  simp only [rt_specs, List.mem_cons, List.not_mem_nil, or_false]
  rintro p (rfl | rfl)
  · exact rloaded_ok
  · exact returned_ok
attribute [local simp] rt_specs returnedS_set
noncomputable def returned2S : SpecFn := mkS encCII fun x => (.agg (returned2 x.1 x.2.1 x.2.2).cells, [])
theorem returned2S_eq (c : Cpu) (a b : Int) : returned2S [.agg c.cells, .int .i64 a, .int .i64 b] [] = some (.agg (returned2 c a b).cells, []) := mkS_eq encCII_inj (c, a, b)
theorem Cpu.set1 (c : Cpu) (v : Int) : (c.r.map (AV.int .i64)).take 1 ++ AV.int .i64 v :: (c.r.map (AV.int .i64)).drop 2 = (c.set 1 v).r.map (AV.int .i64) := c.set_map v (by omega)
theorem returned2_ok : FnC Try.prog 22 returned2S := by
  refine FnC.walk 22 (fn := Try.f22) Try.func22 rfl (by kernel_rfl) fun x => ?_
  obtain ⟨c, a, b⟩ := x
  change W _ _ _ _ ⟨13, [(0, .agg c.cells), (1, .int .i64 a), (2, .int .i64 b)], []⟩
  repeat (first | refine N.seq ?_ | refine N.blk ?_ | refine W.seq rfl ?_ | refine W.block rfl ?_ | refine W.skip rfl ?_ | refine W.ret rfl ?_ | refine N.nil ?_ | refine N.loop ?_ | refine W.exit rfl ?_ | refine X.seq ?_ | refine X.loop ?_ | refine X.hit ?_ | refine X.pass (by decide) ?_ | refine W.region tm rt_specs_ok rfl (by conv => lhs; simp [c.set1]) fun _ => ?_ | refine W.regionD tm rt_specs_ok rfl (by conv => lhs; simp [c.set1]) (by conv => lhs; simp) (by kernel_rfl) fun _ => ?_)
  simp only [Cpu.cells, returned2]
  first | exact Ret.dataR rfl (by conv => lhs; simp) (by conv => lhs; simp) (by first | rfl | simp [inlT, inlV]) | fail "no return here"
theorem rreturned2_ok : FnC Try.prog 23 returned2S := by
  refine FnC.walk 23 (fn := Try.f23) Try.func23 rfl (by kernel_rfl) fun x => ?_
  obtain ⟨c, a, b⟩ := x
  change W _ _ _ _ ⟨13, [(0, .agg c.cells), (1, .int .i64 a), (2, .int .i64 b)], []⟩
  repeat (first | refine N.seq ?_ | refine N.blk ?_ | refine W.seq rfl ?_ | refine W.block rfl ?_ | refine W.skip rfl ?_ | refine W.ret rfl ?_ | refine N.nil ?_ | refine N.loop ?_ | refine W.exit rfl ?_ | refine X.seq ?_ | refine X.loop ?_ | refine X.hit ?_ | refine X.pass (by decide) ?_ | refine W.region tm rt_specs_ok rfl (by conv => lhs; simp [c.set1]) fun _ => ?_ | refine W.regionD tm rt_specs_ok rfl (by conv => lhs; simp [c.set1]) (by conv => lhs; simp) (by kernel_rfl) fun _ => ?_)
  simp only [Cpu.cells, returned2]
  first | exact Ret.dataR rfl (by conv => lhs; simp) (by conv => lhs; simp) (by first | rfl | simp [inlT, inlV]) | fail "no return here"
/-! ### The law on ends of calls -/
theorem sane_run : runFn Try.prog 1000 10 8 [] [] = some (.bool true, []) := by kernel_rfl
theorem sane_ok : FnC Try.prog 8 (runFn Try.prog 1000 10 8) := runFn_ok tm tN 10 8 Try.func8 rfl
end Go.Abs.Cp
