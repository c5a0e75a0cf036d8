/- What 'Next' computes. Conditions: none. -/
import Derived.Test.YtldfmgiglcajcaaCpE
namespace Go.Abs.Cp
open Go Go.Proofs Go.Abs
set_option maxRecDepth 100000
set_option maxHeartbeats 4000000
set_option linter.unusedSimpArgs false
set_option linter.unusedVariables false
theorem tz2 : zeroA Try.prog 2 = some (.int .i64 0) := by kernel_rfl
theorem tz66e : zeroA Try.prog 64 = some .nilf := by kernel_rfl
theorem mkv31 (x : Ins) : mkv Try.prog 31 x.cells = .ret (.agg x.cells) := by simp [mkv, ta31, ts31, Ins.cells, List.take]
noncomputable def nx_specs : NL Spec := [(29, ⟨0, ableS⟩), (30, ⟨3, runFn Try.prog 100 3 30⟩), (35, ⟨0, opS fAdd⟩), (36, ⟨0, opS fSub⟩), (37, ⟨0, opS fMul⟩), (38, ⟨0, opS fLess⟩), (40, ⟨0, opS fEq⟩)]
theorem nx_specs_ok : ∀ p ∈ nx_specs, FnC Try.prog p.1 p.2.fn := by
  simp only [nx_specs, List.mem_cons, List.not_mem_nil, or_false]
  rintro p (rfl | rfl | rfl | rfl | rfl | rfl | rfl)
  · exact possible_ok
  · exact functions_ok
  · exact add_ok
  · exact sub_ok
  · exact mul_ok
  · exact less_ok
  · exact eql_ok
theorem ableS_eq' (x : Ins) : ableS [.agg [.int .i64 x.op, .int .i64 x.a, .int .i64 x.b, .int .i64 x.c]] [] = some (.bool (able x), []) := ableS_eq x
attribute [local simp] runL stepA execA_eq skipA run_ret run_fail run_get run_put run_asm num lk st lk_st putA AS.ev ofValue ofFlat mkv splice fieldAddrA buildA fillA runF gdst pickA unOpA extractA resVs resV pack frzT inlT inlV frzV frzVs frzL frz1 newId AV.cellsOf AV.flat AV.flat2 specOf loadA_runR renL fF handB renB AV.ren backF backL idsOf freshIds refsL refsB AV.refs List.range List.range.loop placesA sliceRows rowsOf convertA sliceArrA sliceA bndA nilCheckA arrayAtA mmA lookupA keyOf keyOK findA keyEqA foundA makeMapA mapUpdateA appendA rowsA indexA partA fieldA retE2 frqT frqV frqVs frqL frq1 reachE blkRefs outE nodupE firstE seqO expB2 expF tz24 ts24 ta24 ts22 ta22 ts3 ta3 ts2 ta2 mkv2 get_1_add take_1_add Cpu.cells Cpu.len Cpu.take frzL_ints brwL_ints inlT inlV tz31 ts31 ta31 tz42 ts42 ta42 ts28 ta28 ts25 ta25 Ins.cells Prg.cells nx_specs ableS_eq' functions_run opS_eq fnBlk callB placesA sliceArrA sliceA bndA arrayAtA ts40 ta40
theorem next_fault (c : Cpu) (p : Prg) (h : next c p.code = fault c) (h0 : c.pc < 0 ∨ (¬ c.pc < 0 ∧ (p.code.length : Int) ≤ c.pc) ∨ (∃ k x, c.pc = (k : Nat) ∧ p.code[k]? = some x ∧ able x = false)) :
    W Try.prog (Ret Try.prog Try.f13 (Res.av (next c p.code)) []) (codeOf Try.f13) [] ⟨148, [(0, .agg c.cells), (1, .agg p.cells)], []⟩ := by
  rw [h]
  obtain ⟨code, s, hs, hc, pg⟩ := p
  have f1 := @frz1_inl s hs
  dsimp only at h0
  rcases h0 with h0 | ⟨h1, h2⟩ | ⟨k, x, h1, h2, h3⟩
  · repeat (first | refine N.seq ?_ | refine N.blk ?_ | refine W.seq rfl ?_ | refine W.block rfl ?_ | refine W.skip rfl ?_ | refine W.ret rfl ?_ | refine N.nil ?_ | refine N.loop ?_ | refine W.exit rfl ?_ | refine X.seq ?_ | refine X.loop ?_ | refine X.hit ?_ | refine X.pass (by decide) ?_ | refine W.condT rfl (by rfl) ?_ | refine W.condF rfl (by rfl) ?_ | refine W.region tm nx_specs_ok rfl (by conv => lhs; simp [h0, hs, hc, f1]) fun _ => ?_ | refine W.regionD tm nx_specs_ok rfl (by conv => lhs; simp [h0, hs, hc, f1]) (by conv => lhs; simp) (by kernel_rfl) fun _ => ?_)
    simp only [fault, Res.av, Cpu.cells, List.map_cons, List.map_nil]
    first | exact Ret.dataR rfl (by conv => lhs; simp) (by conv => lhs; simp) (by first | rfl | simp [inlT, inlV]) | fail "no return here"
  · repeat (first | refine N.seq ?_ | refine N.blk ?_ | refine W.seq rfl ?_ | refine W.block rfl ?_ | refine W.skip rfl ?_ | refine W.ret rfl ?_ | refine N.nil ?_ | refine N.loop ?_ | refine W.exit rfl ?_ | refine X.seq ?_ | refine X.loop ?_ | refine X.hit ?_ | refine X.pass (by decide) ?_ | refine W.condT rfl (by rfl) ?_ | refine W.condF rfl (by rfl) ?_ | refine W.region tm nx_specs_ok rfl (by conv => lhs; simp [h1, h2, hs, hc, f1]) fun _ => ?_ | refine W.regionD tm nx_specs_ok rfl (by conv => lhs; simp [h1, h2, hs, hc, f1]) (by conv => lhs; simp) (by kernel_rfl) fun _ => ?_)
    simp only [fault, Res.av, Cpu.cells, List.map_cons, List.map_nil]
    first | exact Ret.dataR rfl (by conv => lhs; simp) (by conv => lhs; simp) (by first | rfl | simp [inlT, inlV]) | fail "no return here"
  · have hk : k < code.length := (List.getElem?_eq_some_iff.1 h2).1
    have hk' : ¬ code.length ≤ k := by omega
    repeat (first | refine N.seq ?_ | refine N.blk ?_ | refine W.seq rfl ?_ | refine W.block rfl ?_ | refine W.skip rfl ?_ | refine W.ret rfl ?_ | refine N.nil ?_ | refine N.loop ?_ | refine W.exit rfl ?_ | refine X.seq ?_ | refine X.loop ?_ | refine X.hit ?_ | refine X.pass (by decide) ?_ | refine W.condT rfl (by rfl) ?_ | refine W.condF rfl (by rfl) ?_ | refine W.region tm nx_specs_ok rfl (by conv => lhs; simp [h1, nat_not_neg k, h2, h3, hk', hs, hc, f1]) fun _ => ?_ | refine W.regionD tm nx_specs_ok rfl (by conv => lhs; simp [h1, nat_not_neg k, h2, h3, hk', hs, hc, f1]) (by conv => lhs; simp) (by kernel_rfl) fun _ => ?_)
    simp only [fault, Res.av, Cpu.cells, List.map_cons, List.map_nil, h1]
    first | exact Ret.dataR rfl (by conv => lhs; simp) (by conv => lhs; simp) (by first | rfl | simp [inlT, inlV]) | fail "no return here"
theorem drop_1_add {α : Type} (a : α) (l : List α) (k : Nat) : (a :: l).drop (1 + k) = l.drop k := by rw [Nat.add_comm]; rfl
theorem Cpu.drop_eq (c : Cpu) {k : Nat} (h : k < 8) : (c.r.map (AV.int .i64)).drop k = .int .i64 (c.get k) :: (c.r.map (AV.int .i64)).drop (k + 1) := by
  have h2 : k < c.r.length := by rw [c.h]; exact h
  rw [List.drop_eq_getElem_cons (by simpa using h2), List.getElem_map]
  simp [Cpu.get, List.getD_eq_getElem?_getD, List.getElem?_eq_getElem h2]
theorem Cpu.take3 (c : Cpu) : (c.r.map (AV.int .i64)).tail.take 3 = [.int .i64 (c.get 1), .int .i64 (c.get 2), .int .i64 (c.get 3)] := by
  have h := c.h
  unfold Cpu.get
  match c.r, h with
  | [_, _, _, _, _, _, _, _], _ => rfl
theorem goto_pc (c : Cpu) (n : Int) : (c.goto n).pc = n := rfl
theorem goto_r (c : Cpu) (n : Int) : (c.goto n).r = c.r := rfl
theorem set_pc (c : Cpu) (n : Nat) (v : Int) : (c.set n v).pc = c.pc := rfl
theorem set_r (c : Cpu) (n : Nat) (v : Int) : ((stored c).set n v).r = (c.set n v).r := rfl
theorem stored_r (c : Cpu) : (stored c).r = c.r := rfl
theorem next_exec0 (c : Cpu) (p : Prg) {k : Nat} {x : Ins} (h1 : c.pc = k) (h2 : p.code[k]? = some x) (h3 : able x = true) (h0 : x.op = 0 ∨ x.op = 8 ∨ x.op = 12) :
    W Try.prog (Ret Try.prog Try.f13 (Res.av (exec c x)) []) (codeOf Try.f13) [] ⟨148, [(0, .agg c.cells), (1, .agg p.cells)], []⟩ := by
  obtain ⟨code, s, hs, hc, pg⟩ := p
  have f1 := @frz1_inl s hs
  dsimp only at h2
  have hk : k < code.length := (List.getElem?_eq_some_iff.1 h2).1
  have hk' : ¬ code.length ≤ k := by omega
  have hpc : (stored c).pc = IntKind.i64.wrap (k + 1) := by simp [stored, h1]
  have hr : (stored c).r = c.r := rfl
  obtain ⟨o, a, b, d⟩ := x
  have hA := ableS_eq ⟨o, a, b, d⟩
  rw [h3] at hA
  simp only [Ins.cells] at hA
  unfold able at h3
  dsimp only at h3
  dsimp only at h0
  rcases h0 with rfl | rfl | rfl
  · repeat (first | refine N.seq ?_ | refine N.blk ?_ | refine W.seq rfl ?_ | refine W.block rfl ?_ | refine W.skip rfl ?_ | refine W.ret rfl ?_ | refine N.nil ?_ | refine N.loop ?_ | refine W.exit rfl ?_ | refine X.seq ?_ | refine X.loop ?_ | refine X.hit ?_ | refine X.pass (by decide) ?_ | refine W.condT rfl (by rfl) ?_ | refine W.condF rfl (by rfl) ?_ | refine W.region tm nx_specs_ok rfl (by conv => lhs; simp [h1, nat_not_neg k, h2, hA, hk', hs, hc, f1, drop_1_add, gather, refsL, AV.refs, fF, handB, renL, freshIds, getGens, idsOf, putsA, backL, backF, renB, AV.ren, List.range, List.range.loop, lookupA, keyOf, keyOK, findA, keyEqA, foundA, tz66e]) fun _ => ?_ | refine W.regionD tm nx_specs_ok rfl (by conv => lhs; simp [h1, nat_not_neg k, h2, hA, hk', hs, hc, f1, drop_1_add, gather, refsL, AV.refs, fF, handB, renL, freshIds, getGens, idsOf, putsA, backL, backF, renB, AV.ren, List.range, List.range.loop, lookupA, keyOf, keyOK, findA, keyEqA, foundA, tz66e]) (by conv => lhs; simp) (by kernel_rfl) fun _ => ?_)
    simp [exec, Res.av, Cpu.cells, hpc, h1, goto_pc, goto_r, set_pc, set_r, stored_r]
    first | exact Ret.dataR rfl (by conv => lhs; simp) (by conv => lhs; simp) (by first | rfl | simp [inlT, inlV]) | fail "no return here"
  · repeat (first | refine N.seq ?_ | refine N.blk ?_ | refine W.seq rfl ?_ | refine W.block rfl ?_ | refine W.skip rfl ?_ | refine W.ret rfl ?_ | refine N.nil ?_ | refine N.loop ?_ | refine W.exit rfl ?_ | refine X.seq ?_ | refine X.loop ?_ | refine X.hit ?_ | refine X.pass (by decide) ?_ | refine W.condT rfl (by rfl) ?_ | refine W.condF rfl (by rfl) ?_ | refine W.region tm nx_specs_ok rfl (by conv => lhs; simp [h1, nat_not_neg k, h2, hA, hk', hs, hc, f1, drop_1_add]) fun _ => ?_ | refine W.regionD tm nx_specs_ok rfl (by conv => lhs; simp [h1, nat_not_neg k, h2, hA, hk', hs, hc, f1, drop_1_add]) (by conv => lhs; simp) (by kernel_rfl) fun _ => ?_)
    simp [exec, Res.av, Cpu.cells, hpc, h1, goto_pc, goto_r, set_pc, set_r, stored_r]
    first | exact Ret.dataR rfl (by conv => lhs; simp) (by conv => lhs; simp) (by first | rfl | simp [inlT, inlV]) | fail "no return here"
  · repeat (first | refine N.seq ?_ | refine N.blk ?_ | refine W.seq rfl ?_ | refine W.block rfl ?_ | refine W.skip rfl ?_ | refine W.ret rfl ?_ | refine N.nil ?_ | refine N.loop ?_ | refine W.exit rfl ?_ | refine X.seq ?_ | refine X.loop ?_ | refine X.hit ?_ | refine X.pass (by decide) ?_ | refine W.condT rfl (by rfl) ?_ | refine W.condF rfl (by rfl) ?_ | refine W.region tm nx_specs_ok rfl (by conv => lhs; simp [h1, nat_not_neg k, h2, hA, hk', hs, hc, f1, drop_1_add, c.take3]) fun _ => ?_ | refine W.regionD tm nx_specs_ok rfl (by conv => lhs; simp [h1, nat_not_neg k, h2, hA, hk', hs, hc, f1, drop_1_add, c.take3]) (by conv => lhs; simp) (by kernel_rfl) fun _ => ?_)
    simp [exec, Res.av, Cpu.cells, hpc, h1, goto_pc, goto_r, set_pc, set_r, stored_r]
    first | exact Ret.dataR rfl (by conv => lhs; simp) (by conv => lhs; simp) (by first | rfl | simp [inlT, inlV]) | fail "no return here"
theorem next_exec1 (c : Cpu) (p : Prg) {k : Nat} {x : Ins} (h1 : c.pc = k) (h2 : p.code[k]? = some x) (h3 : able x = true) (h0 : ¬(x.op = 0 ∨ x.op = 8 ∨ x.op = 12)) (h4 : x.op = 1 ∨ x.op = 9) :
    W Try.prog (Ret Try.prog Try.f13 (Res.av (exec c x)) []) (codeOf Try.f13) [] ⟨148, [(0, .agg c.cells), (1, .agg p.cells)], []⟩ := by
  obtain ⟨code, s, hs, hc, pg⟩ := p
  have f1 := @frz1_inl s hs
  dsimp only at h2
  have hk : k < code.length := (List.getElem?_eq_some_iff.1 h2).1
  have hk' : ¬ code.length ≤ k := by omega
  have hpc : (stored c).pc = IntKind.i64.wrap (k + 1) := by simp [stored, h1]
  have hr : (stored c).r = c.r := rfl
  obtain ⟨o, a, b, d⟩ := x
  have hA := ableS_eq ⟨o, a, b, d⟩
  rw [h3] at hA
  simp only [Ins.cells] at hA
  unfold able at h3
  dsimp only at h3
  dsimp only at h4
  dsimp only at h0
  rw [if_neg h0] at h3
  rw [if_pos h4] at h3
  obtain ⟨a, rfl, ha⟩ := reg_nat h3
  have ga := c.drop_eq ha
  have sa := fun v => c.set_map (k := a) v ha
  have la : 1 + a + 1 ≤ 8 + 1 := by omega
  have qa : (a : Int) < 8 := by omega
  rcases h4 with rfl | rfl
  · repeat (first | refine N.seq ?_ | refine N.blk ?_ | refine W.seq rfl ?_ | refine W.block rfl ?_ | refine W.skip rfl ?_ | refine W.ret rfl ?_ | refine N.nil ?_ | refine N.loop ?_ | refine W.exit rfl ?_ | refine X.seq ?_ | refine X.loop ?_ | refine X.hit ?_ | refine X.pass (by decide) ?_ | refine W.condT rfl (by rfl) ?_ | refine W.condF rfl (by rfl) ?_ | refine W.region tm nx_specs_ok rfl (by conv => lhs; simp [h1, nat_not_neg k, h2, hA, hk', hs, hc, f1, drop_1_add, ga, sa, la, qa]) fun _ => ?_ | refine W.regionD tm nx_specs_ok rfl (by conv => lhs; simp [h1, nat_not_neg k, h2, hA, hk', hs, hc, f1, drop_1_add, ga, sa, la, qa]) (by conv => lhs; simp) (by kernel_rfl) fun _ => ?_)
    simp [exec, Res.av, Cpu.cells, hpc, h1, goto_pc, goto_r, set_pc, set_r, stored_r]
    first | exact Ret.dataR rfl (by conv => lhs; simp) (by conv => lhs; simp) (by first | rfl | simp [inlT, inlV]) | fail "no return here"
  · by_cases hz : c.get a = 0
    · repeat (first | refine N.seq ?_ | refine N.blk ?_ | refine W.seq rfl ?_ | refine W.block rfl ?_ | refine W.skip rfl ?_ | refine W.ret rfl ?_ | refine N.nil ?_ | refine N.loop ?_ | refine W.exit rfl ?_ | refine X.seq ?_ | refine X.loop ?_ | refine X.hit ?_ | refine X.pass (by decide) ?_ | refine W.condT rfl (by rfl) ?_ | refine W.condF rfl (by rfl) ?_ | refine W.region tm nx_specs_ok rfl (by conv => lhs; simp [h1, nat_not_neg k, h2, hA, hk', hs, hc, f1, drop_1_add, ga, sa, la, qa, hz]) fun _ => ?_ | refine W.regionD tm nx_specs_ok rfl (by conv => lhs; simp [h1, nat_not_neg k, h2, hA, hk', hs, hc, f1, drop_1_add, ga, sa, la, qa, hz]) (by conv => lhs; simp) (by kernel_rfl) fun _ => ?_)
      simp [exec, Res.av, Cpu.cells, hpc, h1, goto_pc, goto_r, set_pc, set_r, stored_r, hz]
      first | exact Ret.dataR rfl (by conv => lhs; simp) (by conv => lhs; simp) (by first | rfl | simp [inlT, inlV]) | fail "no return here"
    · repeat (first | refine N.seq ?_ | refine N.blk ?_ | refine W.seq rfl ?_ | refine W.block rfl ?_ | refine W.skip rfl ?_ | refine W.ret rfl ?_ | refine N.nil ?_ | refine N.loop ?_ | refine W.exit rfl ?_ | refine X.seq ?_ | refine X.loop ?_ | refine X.hit ?_ | refine X.pass (by decide) ?_ | refine W.condT rfl (by rfl) ?_ | refine W.condF rfl (by rfl) ?_ | refine W.region tm nx_specs_ok rfl (by conv => lhs; simp [h1, nat_not_neg k, h2, hA, hk', hs, hc, f1, drop_1_add, ga, sa, la, qa, hz, beq_false_of_ne hz]) fun _ => ?_ | refine W.regionD tm nx_specs_ok rfl (by conv => lhs; simp [h1, nat_not_neg k, h2, hA, hk', hs, hc, f1, drop_1_add, ga, sa, la, qa, hz, beq_false_of_ne hz]) (by conv => lhs; simp) (by kernel_rfl) fun _ => ?_)
      refine W.cond rfl (by rfl) (fun hq => ?_) (fun hq => ?_)
      · repeat (first | refine N.seq ?_ | refine N.blk ?_ | refine W.seq rfl ?_ | refine W.block rfl ?_ | refine W.skip rfl ?_ | refine W.ret rfl ?_ | refine N.nil ?_ | refine N.loop ?_ | refine W.exit rfl ?_ | refine X.seq ?_ | refine X.loop ?_ | refine X.hit ?_ | refine X.pass (by decide) ?_ | refine W.condT rfl (by rfl) ?_ | refine W.condF rfl (by rfl) ?_ | refine W.region tm nx_specs_ok rfl (by conv => lhs; simp [h1, nat_not_neg k, h2, hA, hk', hs, hc, f1, drop_1_add, ga, sa, la, qa, hz, beq_false_of_ne hz]) fun _ => ?_ | refine W.regionD tm nx_specs_ok rfl (by conv => lhs; simp [h1, nat_not_neg k, h2, hA, hk', hs, hc, f1, drop_1_add, ga, sa, la, qa, hz, beq_false_of_ne hz]) (by conv => lhs; simp) (by kernel_rfl) fun _ => ?_)
        simp [exec, Res.av, Cpu.cells, hpc, h1, goto_pc, goto_r, set_pc, set_r, stored_r, hz]
        first | exact Ret.dataR rfl (by conv => lhs; simp) (by conv => lhs; simp) (by first | rfl | simp [inlT, inlV]) | fail "no return here"
      · simp [hz] at hq
end Go.Abs.Cp
