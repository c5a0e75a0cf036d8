/- What 'Next' does with two registers. Conditions: none. -/
import Derived.Test.YtldfmgiglcajcaaCpF
namespace Go.Abs.Cp
open Go Go.Proofs Go.Abs
set_option maxRecDepth 100000
set_option maxHeartbeats 4000000
set_option linter.unusedSimpArgs false
set_option linter.unusedVariables false
attribute [local simp] runL stepA execA_eq skipA run_ret run_fail run_get run_put run_asm num lk st lk_st putA AS.ev ofValue ofFlat mkv splice fieldAddrA buildA fillA runF gdst pickA unOpA extractA resVs resV pack frzT inlT inlV frzV frzVs frzL frz1 newId AV.cellsOf AV.flat AV.flat2 specOf loadA_runR renL fF handB renB AV.ren backF backL idsOf freshIds refsL refsB AV.refs List.range List.range.loop placesA sliceRows rowsOf convertA sliceArrA sliceA bndA nilCheckA arrayAtA mmA lookupA keyOf keyOK findA keyEqA foundA makeMapA mapUpdateA appendA rowsA indexA partA fieldA retE2 frqT frqV frqVs frqL frq1 reachE blkRefs outE nodupE firstE seqO expB2 expF tz24 ts24 ta24 ts22 ta22 ts3 ta3 ts2 ta2 mkv2 get_1_add take_1_add Cpu.cells Cpu.len Cpu.take frzL_ints brwL_ints inlT inlV tz31 ts31 ta31 tz42 ts42 ta42 ts28 ta28 ts25 ta25 Ins.cells Prg.cells nx_specs ableS_eq' functions_run opS_eq fnBlk callB placesA sliceArrA sliceA bndA arrayAtA ts40 ta40
theorem next_exec2 (c : Cpu) (p : Prg) {k : Nat} {x : Ins} (h1 : c.pc = k) (h2 : p.code[k]? = some x) (h3 : able x = true) (h0 : ¬(x.op = 0 ∨ x.op = 8 ∨ x.op = 12)) (h4 : ¬(x.op = 1 ∨ x.op = 9)) (h5 : x.op = 2 ∨ x.op = 10 ∨ x.op = 11) :
    W Try.prog (Ret Try.prog Try.f13 (Res.av (exec c x)) []) (codeOf Try.f13) [] ⟨148, [(0, .agg c.cells), (1, .agg p.cells)], []⟩ := by
  obtain ⟨code, s, hs, hc, pg⟩ := p
  have f1 := @frz1_inl s hs
  dsimp only at h2
  have hk : k < code.length := (List.getElem?_eq_some_iff.1 h2).1
  have hk' : ¬ code.length ≤ k := by omega
  have hpc : (stored c).pc = IntKind.i64.wrap (k + 1) := by simp [stored, h1]
  have hr : (stored c).r = c.r := rfl
  obtain ⟨o, a, b, d⟩ := x
  have hA := ableS_eq ⟨o, a, b, d⟩
  rw [h3] at hA
  simp only [Ins.cells] at hA
  unfold able at h3
  dsimp only at h3
  dsimp only at h5
  dsimp only at h0 h4
  rw [if_neg h0, if_neg h4] at h3
  rw [if_pos h5, Bool.and_eq_true] at h3
  obtain ⟨a, rfl, ha⟩ := reg_nat h3.1
  obtain ⟨b, rfl, hb⟩ := reg_nat h3.2
  have ga := c.drop_eq ha
  have sa := fun v => c.set_map (k := a) v ha
  have la : 1 + a + 1 ≤ 8 + 1 := by omega
  have qa : (a : Int) < 8 := by omega
  have gb := c.drop_eq hb
  have sb := fun v => c.set_map (k := b) v hb
  have lb : 1 + b + 1 ≤ 8 + 1 := by omega
  have qb : (b : Int) < 8 := by omega
  rcases h5 with rfl | rfl | rfl
  · repeat (first | refine N.seq ?_ | refine N.blk ?_ | refine W.seq rfl ?_ | refine W.block rfl ?_ | refine W.skip rfl ?_ | refine W.ret rfl ?_ | refine N.nil ?_ | refine N.loop ?_ | refine W.exit rfl ?_ | refine X.seq ?_ | refine X.loop ?_ | refine X.hit ?_ | refine X.pass (by decide) ?_ | refine W.condT rfl (by rfl) ?_ | refine W.condF rfl (by rfl) ?_ | refine W.region tm nx_specs_ok rfl (by conv => lhs; simp [h1, nat_not_neg k, h2, hA, hk', hs, hc, f1, drop_1_add, ga, sa, la, qa, gb, sb, lb, qb]) fun _ => ?_ | refine W.regionD tm nx_specs_ok rfl (by conv => lhs; simp [h1, nat_not_neg k, h2, hA, hk', hs, hc, f1, drop_1_add, ga, sa, la, qa, gb, sb, lb, qb]) (by conv => lhs; simp) (by kernel_rfl) fun _ => ?_)
    simp [exec, Res.av, Cpu.cells, hpc, h1, goto_pc, goto_r, set_pc, set_r, stored_r]
    first | exact Ret.dataR rfl (by conv => lhs; simp) (by conv => lhs; simp) (by first | rfl | simp [inlT, inlV]) | fail "no return here"
  · repeat (first | refine N.seq ?_ | refine N.blk ?_ | refine W.seq rfl ?_ | refine W.block rfl ?_ | refine W.skip rfl ?_ | refine W.ret rfl ?_ | refine N.nil ?_ | refine N.loop ?_ | refine W.exit rfl ?_ | refine X.seq ?_ | refine X.loop ?_ | refine X.hit ?_ | refine X.pass (by decide) ?_ | refine W.condT rfl (by rfl) ?_ | refine W.condF rfl (by rfl) ?_ | refine W.region tm nx_specs_ok rfl (by conv => lhs; simp [h1, nat_not_neg k, h2, hA, hk', hs, hc, f1, drop_1_add, ga, sa, la, qa, gb, sb, lb, qb]) fun _ => ?_ | refine W.regionD tm nx_specs_ok rfl (by conv => lhs; simp [h1, nat_not_neg k, h2, hA, hk', hs, hc, f1, drop_1_add, ga, sa, la, qa, gb, sb, lb, qb]) (by conv => lhs; simp) (by kernel_rfl) fun _ => ?_)
    simp [exec, fAdd, Res.av, Cpu.cells, hpc, h1, goto_pc, goto_r, set_pc, set_r, stored_r]
    first | exact Ret.dataR rfl (by conv => lhs; simp) (by conv => lhs; simp) (by first | rfl | simp [inlT, inlV]) | fail "no return here"
  · repeat (first | refine N.seq ?_ | refine N.blk ?_ | refine W.seq rfl ?_ | refine W.block rfl ?_ | refine W.skip rfl ?_ | refine W.ret rfl ?_ | refine N.nil ?_ | refine N.loop ?_ | refine W.exit rfl ?_ | refine X.seq ?_ | refine X.loop ?_ | refine X.hit ?_ | refine X.pass (by decide) ?_ | refine W.condT rfl (by rfl) ?_ | refine W.condF rfl (by rfl) ?_ | refine W.region tm nx_specs_ok rfl (by conv => lhs; simp [h1, nat_not_neg k, h2, hA, hk', hs, hc, f1, drop_1_add, ga, sa, la, qa, gb, sb, lb, qb]) fun _ => ?_ | refine W.regionD tm nx_specs_ok rfl (by conv => lhs; simp [h1, nat_not_neg k, h2, hA, hk', hs, hc, f1, drop_1_add, ga, sa, la, qa, gb, sb, lb, qb]) (by conv => lhs; simp) (by kernel_rfl) fun _ => ?_)
    simp [exec, fAdd, Res.av, Cpu.cells, hpc, h1, goto_pc, goto_r, set_pc, set_r, stored_r]
    first | exact Ret.dataR rfl (by conv => lhs; simp) (by conv => lhs; simp) (by first | rfl | simp [inlT, inlV]) | fail "no return here"
end Go.Abs.Cp
