/- What the reference's 'Next' computes: the same. Conditions: none. -/
import Derived.Test.YtldfmgiglcajcaaCpW1
namespace Go.Abs.Cp
open Go Go.Proofs Go.Abs
set_option maxRecDepth 100000
set_option maxHeartbeats 8000000
set_option linter.unusedSimpArgs false
set_option linter.unusedVariables false
noncomputable def rn_specs : NL Spec := [(17, ⟨0, loadedS⟩), (19, ⟨0, storedS⟩), (31, ⟨0, faultS⟩), (32, ⟨0, regS⟩), (33, ⟨0, threeS⟩)]
theorem rn_specs_ok : ∀ p ∈ rn_specs, FnC Try.prog p.1 p.2.fn := by
  simp only [rn_specs, List.mem_cons, List.not_mem_nil, or_false]
  rintro p (rfl | rfl | rfl | rfl | rfl)
  · exact rloaded_ok
  · exact rstored_ok
  · exact fault_ok
  · exact reg_ok
  · exact three_ok
theorem loadedS_eq'' (c : Cpu) (n v : Int) : loadedS [.agg (.int .i64 c.pc :: c.r.map (.int .i64)), .int .i64 n, .int .i64 v] [] = some (.agg (.int .i64 (loaded c n v).pc :: (loaded c n v).r.map (.int .i64)), []) := loadedS_eq c n v
theorem loaded_reg (c : Cpu) {n : Int} (v : Int) (h : reg n = true) : loaded c n v = (stored c).set n.toNat v := by
  simp only [loaded, h, if_true]
  rfl
theorem next_at {c : Cpu} {code : List Ins} {x : Ins} (h1 : 0 ≤ c.pc) (h2 : code[c.pc.toNat]? = some x) : next c code = if able x then exec c x else fault c := by
  unfold next
  rw [if_neg (by omega), h2]
attribute [local simp] runL stepA execA_eq skipA run_ret run_fail run_get run_put run_asm num lk st lk_st putA AS.ev ofValue ofFlat mkv splice fieldAddrA buildA fillA runF gdst pickA unOpA extractA resVs resV pack frzT inlT inlV frzV frzVs frzL frz1 newId AV.cellsOf AV.flat AV.flat2 specOf loadA_runR renL fF handB renB AV.ren backF backL idsOf freshIds refsL refsB AV.refs List.range List.range.loop placesA sliceRows rowsOf convertA sliceArrA sliceA bndA nilCheckA arrayAtA mmA lookupA keyOf keyOK findA keyEqA foundA makeMapA mapUpdateA appendA rowsA indexA partA fieldA retE2 frqT frqV frqVs frqL frq1 reachE blkRefs outE nodupE firstE seqO expB2 expF Cpu.cells Cpu.len Cpu.take get_1_add take_1_add rn_specs faultS_eq regS_eq storedS_eq' storedS_set loadedS_eq'' threeS_eq Prg.cells Ins.cells frzL_ints brwL_ints
theorem rnext_out (c : Cpu) (p : Prg) (h0 : c.pc < 0 ∨ (¬ c.pc < 0 ∧ (p.code.length : Int) ≤ c.pc)) :
    W Try.prog (Ret Try.prog Try.f14 (Res.av (next c p.code)) []) (codeOf Try.f14) [] ⟨199, [(0, .agg c.cells), (1, .agg p.cells)], []⟩ := by
  have hn : next c p.code = fault c := by
    unfold next
    rcases h0 with h0 | ⟨h0, h1⟩
    · rw [if_pos h0]
    · rw [if_neg h0, List.getElem?_eq_none (by omega)]
  rw [hn]
  obtain ⟨code, s, hs, hc, pg⟩ := p
  dsimp only at h0
  rcases h0 with h0 | ⟨h1, h2⟩
  · repeat (first | refine N.seq ?_ | refine N.blk ?_ | refine W.seq rfl ?_ | refine W.block rfl ?_ | refine W.skip rfl ?_ | refine W.ret rfl ?_ | refine N.nil ?_ | refine N.loop ?_ | refine W.exit rfl ?_ | refine X.seq ?_ | refine X.loop ?_ | refine X.hit ?_ | refine X.pass (by decide) ?_ | refine W.condT rfl (by rfl) ?_ | refine W.condF rfl (by rfl) ?_ | refine W.region tm rn_specs_ok rfl (by conv => lhs; simp [h0, hs, hc]) fun _ => ?_ | refine W.regionD tm rn_specs_ok rfl (by conv => lhs; simp [h0, hs, hc]) (by conv => lhs; simp) (by kernel_rfl) fun _ => ?_)
    simp only [fault, Res.av, Cpu.cells, List.map_cons, List.map_nil]
    first | exact Ret.dataR rfl (by conv => lhs; simp) (by conv => lhs; simp) (by first | rfl | simp [inlT, inlV]) | fail "no return here"
  · repeat (first | refine N.seq ?_ | refine N.blk ?_ | refine W.seq rfl ?_ | refine W.block rfl ?_ | refine W.skip rfl ?_ | refine W.ret rfl ?_ | refine N.nil ?_ | refine N.loop ?_ | refine W.exit rfl ?_ | refine X.seq ?_ | refine X.loop ?_ | refine X.hit ?_ | refine X.pass (by decide) ?_ | refine W.condT rfl (by rfl) ?_ | refine W.condF rfl (by rfl) ?_ | refine W.region tm rn_specs_ok rfl (by conv => lhs; simp [h1, h2, hs, hc]) fun _ => ?_ | refine W.regionD tm rn_specs_ok rfl (by conv => lhs; simp [h1, h2, hs, hc]) (by conv => lhs; simp) (by kernel_rfl) fun _ => ?_)
    simp only [fault, Res.av, Cpu.cells, List.map_cons, List.map_nil]
    first | exact Ret.dataR rfl (by conv => lhs; simp) (by conv => lhs; simp) (by first | rfl | simp [inlT, inlV]) | fail "no return here"
theorem rnext0 (c : Cpu) (p : Prg) {a b d : Int} (p0 : 0 ≤ c.pc) (h2 : p.code[c.pc.toNat]? = some ⟨0, a, b, d⟩) :
    W Try.prog (Ret Try.prog Try.f14 (Res.av (next c p.code)) []) (codeOf Try.f14) [] ⟨199, [(0, .agg c.cells), (1, .agg p.cells)], []⟩ := by
  rw [next_at p0 h2]
  obtain ⟨code, s, hs, hc, pg⟩ := p
  dsimp only at h2
  have hk : c.pc.toNat < code.length := (List.getElem?_eq_some_iff.1 h2).1
  have q0 : ¬ c.pc < 0 := by omega
  have q1 : ¬ (code.length : Int) ≤ c.pc := by omega
  repeat (first | refine N.seq ?_ | refine N.blk ?_ | refine W.seq rfl ?_ | refine W.block rfl ?_ | refine W.skip rfl ?_ | refine W.ret rfl ?_ | refine N.nil ?_ | refine N.loop ?_ | refine W.exit rfl ?_ | refine X.seq ?_ | refine X.loop ?_ | refine X.hit ?_ | refine X.pass (by decide) ?_ | refine W.condT rfl (by rfl) ?_ | refine W.condF rfl (by rfl) ?_ | refine W.region tm rn_specs_ok rfl (by conv => lhs; simp [q0, q1, p0, h2, hs, hc, drop_1_add]) fun _ => ?_ | refine W.regionD tm rn_specs_ok rfl (by conv => lhs; simp [q0, q1, p0, h2, hs, hc, drop_1_add]) (by conv => lhs; simp) (by kernel_rfl) fun _ => ?_)
  simp [able, exec, Res.av, Cpu.cells, goto_pc, goto_r, set_pc, set_r, stored_r]
  first | exact Ret.dataR rfl (by conv => lhs; simp) (by conv => lhs; simp) (by first | rfl | simp [inlT, inlV]) | fail "no return here"
theorem rnext1 (c : Cpu) (p : Prg) {a b d : Int} (p0 : 0 ≤ c.pc) (h2 : p.code[c.pc.toNat]? = some ⟨1, a, b, d⟩) :
    W Try.prog (Ret Try.prog Try.f14 (Res.av (next c p.code)) []) (codeOf Try.f14) [] ⟨199, [(0, .agg c.cells), (1, .agg p.cells)], []⟩ := by
  rw [next_at p0 h2]
  obtain ⟨code, s, hs, hc, pg⟩ := p
  dsimp only at h2
  have hk : c.pc.toNat < code.length := (List.getElem?_eq_some_iff.1 h2).1
  have q0 : ¬ c.pc < 0 := by omega
  have q1 : ¬ (code.length : Int) ≤ c.pc := by omega
  rcases Bool.eq_false_or_eq_true (reg a) with ra | ra
  · obtain ⟨a, rfl, ha⟩ := reg_nat ra
    have ga := c.drop_eq ha
    have qa : (a : Int) < 8 := by omega
    repeat (first | refine N.seq ?_ | refine N.blk ?_ | refine W.seq rfl ?_ | refine W.block rfl ?_ | refine W.skip rfl ?_ | refine W.ret rfl ?_ | refine N.nil ?_ | refine N.loop ?_ | refine W.exit rfl ?_ | refine X.seq ?_ | refine X.loop ?_ | refine X.hit ?_ | refine X.pass (by decide) ?_ | refine W.condT rfl (by rfl) ?_ | refine W.condF rfl (by rfl) ?_ | refine W.region tm rn_specs_ok rfl (by conv => lhs; simp [q0, q1, p0, h2, hs, hc, drop_1_add, ra, ga, qa, loaded_reg c _ ra]) fun _ => ?_ | refine W.regionD tm rn_specs_ok rfl (by conv => lhs; simp [q0, q1, p0, h2, hs, hc, drop_1_add, ra, ga, qa, loaded_reg c _ ra]) (by conv => lhs; simp) (by kernel_rfl) fun _ => ?_)
    simp [able, ra, exec, Res.av, Cpu.cells, goto_pc, goto_r, set_pc, set_r, stored_r]
    first | exact Ret.dataR rfl (by conv => lhs; simp) (by conv => lhs; simp) (by first | rfl | simp [inlT, inlV]) | fail "no return here"
  · repeat (first | refine N.seq ?_ | refine N.blk ?_ | refine W.seq rfl ?_ | refine W.block rfl ?_ | refine W.skip rfl ?_ | refine W.ret rfl ?_ | refine N.nil ?_ | refine N.loop ?_ | refine W.exit rfl ?_ | refine X.seq ?_ | refine X.loop ?_ | refine X.hit ?_ | refine X.pass (by decide) ?_ | refine W.condT rfl (by rfl) ?_ | refine W.condF rfl (by rfl) ?_ | refine W.region tm rn_specs_ok rfl (by conv => lhs; simp [q0, q1, p0, h2, hs, hc, drop_1_add, ra]) fun _ => ?_ | refine W.regionD tm rn_specs_ok rfl (by conv => lhs; simp [q0, q1, p0, h2, hs, hc, drop_1_add, ra]) (by conv => lhs; simp) (by kernel_rfl) fun _ => ?_)
    simp [able, ra, fault, Res.av, Cpu.cells]
    first | exact Ret.dataR rfl (by conv => lhs; simp) (by conv => lhs; simp) (by first | rfl | simp [inlT, inlV]) | fail "no return here"
theorem rnext2 (c : Cpu) (p : Prg) {a b d : Int} (p0 : 0 ≤ c.pc) (h2 : p.code[c.pc.toNat]? = some ⟨2, a, b, d⟩) :
    W Try.prog (Ret Try.prog Try.f14 (Res.av (next c p.code)) []) (codeOf Try.f14) [] ⟨199, [(0, .agg c.cells), (1, .agg p.cells)], []⟩ := by
  rw [next_at p0 h2]
  obtain ⟨code, s, hs, hc, pg⟩ := p
  dsimp only at h2
  have hk : c.pc.toNat < code.length := (List.getElem?_eq_some_iff.1 h2).1
  have q0 : ¬ c.pc < 0 := by omega
  have q1 : ¬ (code.length : Int) ≤ c.pc := by omega
  rcases Bool.eq_false_or_eq_true (reg a) with ra | ra
  · rcases Bool.eq_false_or_eq_true (reg b) with rb | rb
    · obtain ⟨a, rfl, ha⟩ := reg_nat ra
      obtain ⟨b, rfl, hb⟩ := reg_nat rb
      have ga := c.drop_eq ha
      have gb := c.drop_eq hb
      have qa : (a : Int) < 8 := by omega
      have qb : (b : Int) < 8 := by omega
      repeat (first | refine N.seq ?_ | refine N.blk ?_ | refine W.seq rfl ?_ | refine W.block rfl ?_ | refine W.skip rfl ?_ | refine W.ret rfl ?_ | refine N.nil ?_ | refine N.loop ?_ | refine W.exit rfl ?_ | refine X.seq ?_ | refine X.loop ?_ | refine X.hit ?_ | refine X.pass (by decide) ?_ | refine W.condT rfl (by rfl) ?_ | refine W.condF rfl (by rfl) ?_ | refine W.region tm rn_specs_ok rfl (by conv => lhs; simp [q0, q1, p0, h2, hs, hc, drop_1_add, ra, rb, ga, gb, qa, qb, loaded_reg c _ ra]) fun _ => ?_ | refine W.regionD tm rn_specs_ok rfl (by conv => lhs; simp [q0, q1, p0, h2, hs, hc, drop_1_add, ra, rb, ga, gb, qa, qb, loaded_reg c _ ra]) (by conv => lhs; simp) (by kernel_rfl) fun _ => ?_)
      simp [able, ra, rb, fAdd, exec, Res.av, Cpu.cells, goto_pc, goto_r, set_pc, set_r, stored_r]
      first | exact Ret.dataR rfl (by conv => lhs; simp) (by conv => lhs; simp) (by first | rfl | simp [inlT, inlV]) | fail "no return here"
    · repeat (first | refine N.seq ?_ | refine N.blk ?_ | refine W.seq rfl ?_ | refine W.block rfl ?_ | refine W.skip rfl ?_ | refine W.ret rfl ?_ | refine N.nil ?_ | refine N.loop ?_ | refine W.exit rfl ?_ | refine X.seq ?_ | refine X.loop ?_ | refine X.hit ?_ | refine X.pass (by decide) ?_ | refine W.condT rfl (by rfl) ?_ | refine W.condF rfl (by rfl) ?_ | refine W.region tm rn_specs_ok rfl (by conv => lhs; simp [q0, q1, p0, h2, hs, hc, drop_1_add, ra, rb]) fun _ => ?_ | refine W.regionD tm rn_specs_ok rfl (by conv => lhs; simp [q0, q1, p0, h2, hs, hc, drop_1_add, ra, rb]) (by conv => lhs; simp) (by kernel_rfl) fun _ => ?_)
      simp [able, ra, rb, fault, Res.av, Cpu.cells]
      first | exact Ret.dataR rfl (by conv => lhs; simp) (by conv => lhs; simp) (by first | rfl | simp [inlT, inlV]) | fail "no return here"
  · repeat (first | refine N.seq ?_ | refine N.blk ?_ | refine W.seq rfl ?_ | refine W.block rfl ?_ | refine W.skip rfl ?_ | refine W.ret rfl ?_ | refine N.nil ?_ | refine N.loop ?_ | refine W.exit rfl ?_ | refine X.seq ?_ | refine X.loop ?_ | refine X.hit ?_ | refine X.pass (by decide) ?_ | refine W.condT rfl (by rfl) ?_ | refine W.condF rfl (by rfl) ?_ | refine W.region tm rn_specs_ok rfl (by conv => lhs; simp [q0, q1, p0, h2, hs, hc, drop_1_add, ra]) fun _ => ?_ | refine W.regionD tm rn_specs_ok rfl (by conv => lhs; simp [q0, q1, p0, h2, hs, hc, drop_1_add, ra]) (by conv => lhs; simp) (by kernel_rfl) fun _ => ?_)
    simp [able, ra, fault, Res.av, Cpu.cells]
    first | exact Ret.dataR rfl (by conv => lhs; simp) (by conv => lhs; simp) (by first | rfl | simp [inlT, inlV]) | fail "no return here"
theorem rnext9 (c : Cpu) (p : Prg) {a b d : Int} (p0 : 0 ≤ c.pc) (h2 : p.code[c.pc.toNat]? = some ⟨9, a, b, d⟩) :
    W Try.prog (Ret Try.prog Try.f14 (Res.av (next c p.code)) []) (codeOf Try.f14) [] ⟨199, [(0, .agg c.cells), (1, .agg p.cells)], []⟩ := by
  rw [next_at p0 h2]
  obtain ⟨code, s, hs, hc, pg⟩ := p
  dsimp only at h2
  have hk : c.pc.toNat < code.length := (List.getElem?_eq_some_iff.1 h2).1
  have q0 : ¬ c.pc < 0 := by omega
  have q1 : ¬ (code.length : Int) ≤ c.pc := by omega
  rcases Bool.eq_false_or_eq_true (reg a) with ra | ra
  · obtain ⟨a, rfl, ha⟩ := reg_nat ra
    have ga := c.drop_eq ha
    have qa : (a : Int) < 8 := by omega
    by_cases hz : c.get a = 0
    · repeat (first | refine N.seq ?_ | refine N.blk ?_ | refine W.seq rfl ?_ | refine W.block rfl ?_ | refine W.skip rfl ?_ | refine W.ret rfl ?_ | refine N.nil ?_ | refine N.loop ?_ | refine W.exit rfl ?_ | refine X.seq ?_ | refine X.loop ?_ | refine X.hit ?_ | refine X.pass (by decide) ?_ | refine W.condT rfl (by rfl) ?_ | refine W.condF rfl (by rfl) ?_ | refine W.region tm rn_specs_ok rfl (by conv => lhs; simp [q0, q1, p0, h2, hs, hc, drop_1_add, ra, ga, qa, hz]) fun _ => ?_ | refine W.regionD tm rn_specs_ok rfl (by conv => lhs; simp [q0, q1, p0, h2, hs, hc, drop_1_add, ra, ga, qa, hz]) (by conv => lhs; simp) (by kernel_rfl) fun _ => ?_)
      simp [able, ra, hz, exec, Res.av, Cpu.cells, goto_pc, goto_r, set_pc, set_r, stored_r]
      first | exact Ret.dataR rfl (by conv => lhs; simp) (by conv => lhs; simp) (by first | rfl | simp [inlT, inlV]) | fail "no return here"
    · repeat (first | refine N.seq ?_ | refine N.blk ?_ | refine W.seq rfl ?_ | refine W.block rfl ?_ | refine W.skip rfl ?_ | refine W.ret rfl ?_ | refine N.nil ?_ | refine N.loop ?_ | refine W.exit rfl ?_ | refine X.seq ?_ | refine X.loop ?_ | refine X.hit ?_ | refine X.pass (by decide) ?_ | refine W.condT rfl (by rfl) ?_ | refine W.condF rfl (by rfl) ?_ | refine W.region tm rn_specs_ok rfl (by conv => lhs; simp [q0, q1, p0, h2, hs, hc, drop_1_add, ra, ga, qa, hz, beq_false_of_ne hz]) fun _ => ?_ | refine W.regionD tm rn_specs_ok rfl (by conv => lhs; simp [q0, q1, p0, h2, hs, hc, drop_1_add, ra, ga, qa, hz, beq_false_of_ne hz]) (by conv => lhs; simp) (by kernel_rfl) fun _ => ?_)
      simp [able, ra, hz, exec, Res.av, Cpu.cells, goto_pc, goto_r, set_pc, set_r, stored_r]
      first | exact Ret.dataR rfl (by conv => lhs; simp) (by conv => lhs; simp) (by first | rfl | simp [inlT, inlV]) | fail "no return here"
  · repeat (first | refine N.seq ?_ | refine N.blk ?_ | refine W.seq rfl ?_ | refine W.block rfl ?_ | refine W.skip rfl ?_ | refine W.ret rfl ?_ | refine N.nil ?_ | refine N.loop ?_ | refine W.exit rfl ?_ | refine X.seq ?_ | refine X.loop ?_ | refine X.hit ?_ | refine X.pass (by decide) ?_ | refine W.condT rfl (by rfl) ?_ | refine W.condF rfl (by rfl) ?_ | refine W.region tm rn_specs_ok rfl (by conv => lhs; simp [q0, q1, p0, h2, hs, hc, drop_1_add, ra]) fun _ => ?_ | refine W.regionD tm rn_specs_ok rfl (by conv => lhs; simp [q0, q1, p0, h2, hs, hc, drop_1_add, ra]) (by conv => lhs; simp) (by kernel_rfl) fun _ => ?_)
    simp [able, ra, fault, Res.av, Cpu.cells]
    first | exact Ret.dataR rfl (by conv => lhs; simp) (by conv => lhs; simp) (by first | rfl | simp [inlT, inlV]) | fail "no return here"
theorem rnext10 (c : Cpu) (p : Prg) {a b d : Int} (p0 : 0 ≤ c.pc) (h2 : p.code[c.pc.toNat]? = some ⟨10, a, b, d⟩) :
    W Try.prog (Ret Try.prog Try.f14 (Res.av (next c p.code)) []) (codeOf Try.f14) [] ⟨199, [(0, .agg c.cells), (1, .agg p.cells)], []⟩ := by
  rw [next_at p0 h2]
  obtain ⟨code, s, hs, hc, pg⟩ := p
  dsimp only at h2
  have hk : c.pc.toNat < code.length := (List.getElem?_eq_some_iff.1 h2).1
  have q0 : ¬ c.pc < 0 := by omega
  have q1 : ¬ (code.length : Int) ≤ c.pc := by omega
  rcases Bool.eq_false_or_eq_true (reg a) with ra | ra
  · rcases Bool.eq_false_or_eq_true (reg b) with rb | rb
    · obtain ⟨a, rfl, ha⟩ := reg_nat ra
      obtain ⟨b, rfl, hb⟩ := reg_nat rb
      have ga := c.drop_eq ha
      have gb := c.drop_eq hb
      have qa : (a : Int) < 8 := by omega
      have qb : (b : Int) < 8 := by omega
      repeat (first | refine N.seq ?_ | refine N.blk ?_ | refine W.seq rfl ?_ | refine W.block rfl ?_ | refine W.skip rfl ?_ | refine W.ret rfl ?_ | refine N.nil ?_ | refine N.loop ?_ | refine W.exit rfl ?_ | refine X.seq ?_ | refine X.loop ?_ | refine X.hit ?_ | refine X.pass (by decide) ?_ | refine W.condT rfl (by rfl) ?_ | refine W.condF rfl (by rfl) ?_ | refine W.region tm rn_specs_ok rfl (by conv => lhs; simp [q0, q1, p0, h2, hs, hc, drop_1_add, ra, rb, ga, gb, qa, qb, loaded_reg c _ ra]) fun _ => ?_ | refine W.regionD tm rn_specs_ok rfl (by conv => lhs; simp [q0, q1, p0, h2, hs, hc, drop_1_add, ra, rb, ga, gb, qa, qb, loaded_reg c _ ra]) (by conv => lhs; simp) (by kernel_rfl) fun _ => ?_)
      simp [able, ra, rb, fAdd, exec, Res.av, Cpu.cells, goto_pc, goto_r, set_pc, set_r, stored_r]
      first | exact Ret.dataR rfl (by conv => lhs; simp) (by conv => lhs; simp) (by first | rfl | simp [inlT, inlV]) | fail "no return here"
    · repeat (first | refine N.seq ?_ | refine N.blk ?_ | refine W.seq rfl ?_ | refine W.block rfl ?_ | refine W.skip rfl ?_ | refine W.ret rfl ?_ | refine N.nil ?_ | refine N.loop ?_ | refine W.exit rfl ?_ | refine X.seq ?_ | refine X.loop ?_ | refine X.hit ?_ | refine X.pass (by decide) ?_ | refine W.condT rfl (by rfl) ?_ | refine W.condF rfl (by rfl) ?_ | refine W.region tm rn_specs_ok rfl (by conv => lhs; simp [q0, q1, p0, h2, hs, hc, drop_1_add, ra, rb]) fun _ => ?_ | refine W.regionD tm rn_specs_ok rfl (by conv => lhs; simp [q0, q1, p0, h2, hs, hc, drop_1_add, ra, rb]) (by conv => lhs; simp) (by kernel_rfl) fun _ => ?_)
      simp [able, ra, rb, fault, Res.av, Cpu.cells]
      first | exact Ret.dataR rfl (by conv => lhs; simp) (by conv => lhs; simp) (by first | rfl | simp [inlT, inlV]) | fail "no return here"
  · repeat (first | refine N.seq ?_ | refine N.blk ?_ | refine W.seq rfl ?_ | refine W.block rfl ?_ | refine W.skip rfl ?_ | refine W.ret rfl ?_ | refine N.nil ?_ | refine N.loop ?_ | refine W.exit rfl ?_ | refine X.seq ?_ | refine X.loop ?_ | refine X.hit ?_ | refine X.pass (by decide) ?_ | refine W.condT rfl (by rfl) ?_ | refine W.condF rfl (by rfl) ?_ | refine W.region tm rn_specs_ok rfl (by conv => lhs; simp [q0, q1, p0, h2, hs, hc, drop_1_add, ra]) fun _ => ?_ | refine W.regionD tm rn_specs_ok rfl (by conv => lhs; simp [q0, q1, p0, h2, hs, hc, drop_1_add, ra]) (by conv => lhs; simp) (by kernel_rfl) fun _ => ?_)
    simp [able, ra, fault, Res.av, Cpu.cells]
    first | exact Ret.dataR rfl (by conv => lhs; simp) (by conv => lhs; simp) (by first | rfl | simp [inlT, inlV]) | fail "no return here"
theorem rnext11 (c : Cpu) (p : Prg) {a b d : Int} (p0 : 0 ≤ c.pc) (h2 : p.code[c.pc.toNat]? = some ⟨11, a, b, d⟩) :
    W Try.prog (Ret Try.prog Try.f14 (Res.av (next c p.code)) []) (codeOf Try.f14) [] ⟨199, [(0, .agg c.cells), (1, .agg p.cells)], []⟩ := by
  rw [next_at p0 h2]
  obtain ⟨code, s, hs, hc, pg⟩ := p
  dsimp only at h2
  have hk : c.pc.toNat < code.length := (List.getElem?_eq_some_iff.1 h2).1
  have q0 : ¬ c.pc < 0 := by omega
  have q1 : ¬ (code.length : Int) ≤ c.pc := by omega
  rcases Bool.eq_false_or_eq_true (reg a) with ra | ra
  · rcases Bool.eq_false_or_eq_true (reg b) with rb | rb
    · obtain ⟨a, rfl, ha⟩ := reg_nat ra
      obtain ⟨b, rfl, hb⟩ := reg_nat rb
      have ga := c.drop_eq ha
      have gb := c.drop_eq hb
      have qa : (a : Int) < 8 := by omega
      have qb : (b : Int) < 8 := by omega
      repeat (first | refine N.seq ?_ | refine N.blk ?_ | refine W.seq rfl ?_ | refine W.block rfl ?_ | refine W.skip rfl ?_ | refine W.ret rfl ?_ | refine N.nil ?_ | refine N.loop ?_ | refine W.exit rfl ?_ | refine X.seq ?_ | refine X.loop ?_ | refine X.hit ?_ | refine X.pass (by decide) ?_ | refine W.condT rfl (by rfl) ?_ | refine W.condF rfl (by rfl) ?_ | refine W.region tm rn_specs_ok rfl (by conv => lhs; simp [q0, q1, p0, h2, hs, hc, drop_1_add, ra, rb, ga, gb, qa, qb, loaded_reg c _ ra]) fun _ => ?_ | refine W.regionD tm rn_specs_ok rfl (by conv => lhs; simp [q0, q1, p0, h2, hs, hc, drop_1_add, ra, rb, ga, gb, qa, qb, loaded_reg c _ ra]) (by conv => lhs; simp) (by kernel_rfl) fun _ => ?_)
      simp [able, ra, rb, fAdd, exec, Res.av, Cpu.cells, goto_pc, goto_r, set_pc, set_r, stored_r]
      first | exact Ret.dataR rfl (by conv => lhs; simp) (by conv => lhs; simp) (by first | rfl | simp [inlT, inlV]) | fail "no return here"
    · repeat (first | refine N.seq ?_ | refine N.blk ?_ | refine W.seq rfl ?_ | refine W.block rfl ?_ | refine W.skip rfl ?_ | refine W.ret rfl ?_ | refine N.nil ?_ | refine N.loop ?_ | refine W.exit rfl ?_ | refine X.seq ?_ | refine X.loop ?_ | refine X.hit ?_ | refine X.pass (by decide) ?_ | refine W.condT rfl (by rfl) ?_ | refine W.condF rfl (by rfl) ?_ | refine W.region tm rn_specs_ok rfl (by conv => lhs; simp [q0, q1, p0, h2, hs, hc, drop_1_add, ra, rb]) fun _ => ?_ | refine W.regionD tm rn_specs_ok rfl (by conv => lhs; simp [q0, q1, p0, h2, hs, hc, drop_1_add, ra, rb]) (by conv => lhs; simp) (by kernel_rfl) fun _ => ?_)
      simp [able, ra, rb, fault, Res.av, Cpu.cells]
      first | exact Ret.dataR rfl (by conv => lhs; simp) (by conv => lhs; simp) (by first | rfl | simp [inlT, inlV]) | fail "no return here"
  · repeat (first | refine N.seq ?_ | refine N.blk ?_ | refine W.seq rfl ?_ | refine W.block rfl ?_ | refine W.skip rfl ?_ | refine W.ret rfl ?_ | refine N.nil ?_ | refine N.loop ?_ | refine W.exit rfl ?_ | refine X.seq ?_ | refine X.loop ?_ | refine X.hit ?_ | refine X.pass (by decide) ?_ | refine W.condT rfl (by rfl) ?_ | refine W.condF rfl (by rfl) ?_ | refine W.region tm rn_specs_ok rfl (by conv => lhs; simp [q0, q1, p0, h2, hs, hc, drop_1_add, ra]) fun _ => ?_ | refine W.regionD tm rn_specs_ok rfl (by conv => lhs; simp [q0, q1, p0, h2, hs, hc, drop_1_add, ra]) (by conv => lhs; simp) (by kernel_rfl) fun _ => ?_)
    simp [able, ra, fault, Res.av, Cpu.cells]
    first | exact Ret.dataR rfl (by conv => lhs; simp) (by conv => lhs; simp) (by first | rfl | simp [inlT, inlV]) | fail "no return here"
theorem rnext8 (c : Cpu) (p : Prg) {a b d : Int} (p0 : 0 ≤ c.pc) (h2 : p.code[c.pc.toNat]? = some ⟨8, a, b, d⟩) :
    W Try.prog (Ret Try.prog Try.f14 (Res.av (next c p.code)) []) (codeOf Try.f14) [] ⟨199, [(0, .agg c.cells), (1, .agg p.cells)], []⟩ := by
  rw [next_at p0 h2]
  obtain ⟨code, s, hs, hc, pg⟩ := p
  dsimp only at h2
  have hk : c.pc.toNat < code.length := (List.getElem?_eq_some_iff.1 h2).1
  have q0 : ¬ c.pc < 0 := by omega
  have q1 : ¬ (code.length : Int) ≤ c.pc := by omega
  repeat (first | refine N.seq ?_ | refine N.blk ?_ | refine W.seq rfl ?_ | refine W.block rfl ?_ | refine W.skip rfl ?_ | refine W.ret rfl ?_ | refine N.nil ?_ | refine N.loop ?_ | refine W.exit rfl ?_ | refine X.seq ?_ | refine X.loop ?_ | refine X.hit ?_ | refine X.pass (by decide) ?_ | refine W.condT rfl (by rfl) ?_ | refine W.condF rfl (by rfl) ?_ | refine W.region tm rn_specs_ok rfl (by conv => lhs; simp [q0, q1, p0, h2, hs, hc, drop_1_add]) fun _ => ?_ | refine W.regionD tm rn_specs_ok rfl (by conv => lhs; simp [q0, q1, p0, h2, hs, hc, drop_1_add]) (by conv => lhs; simp) (by kernel_rfl) fun _ => ?_)
  simp [able, exec, Res.av, Cpu.cells, goto_pc, goto_r, set_pc, set_r, stored_r]
  first | exact Ret.dataR rfl (by conv => lhs; simp) (by conv => lhs; simp) (by first | rfl | simp [inlT, inlV]) | fail "no return here"
theorem rnext12 (c : Cpu) (p : Prg) {a b d : Int} (p0 : 0 ≤ c.pc) (h2 : p.code[c.pc.toNat]? = some ⟨12, a, b, d⟩) :
    W Try.prog (Ret Try.prog Try.f14 (Res.av (next c p.code)) []) (codeOf Try.f14) [] ⟨199, [(0, .agg c.cells), (1, .agg p.cells)], []⟩ := by
  rw [next_at p0 h2]
  obtain ⟨code, s, hs, hc, pg⟩ := p
  dsimp only at h2
  have hk : c.pc.toNat < code.length := (List.getElem?_eq_some_iff.1 h2).1
  have q0 : ¬ c.pc < 0 := by omega
  have q1 : ¬ (code.length : Int) ≤ c.pc := by omega
  have t1 : (c.r.map (AV.int .i64)).tail = .int .i64 (c.get 1) :: (c.r.map (AV.int .i64)).drop 2 := by rw [← List.drop_one]; exact c.drop_eq (k := 1) (by omega)
  have t2 := c.drop_eq (k := 2) (by omega)
  have t3 := c.drop_eq (k := 3) (by omega)
  repeat (first | refine N.seq ?_ | refine N.blk ?_ | refine W.seq rfl ?_ | refine W.block rfl ?_ | refine W.skip rfl ?_ | refine W.ret rfl ?_ | refine N.nil ?_ | refine N.loop ?_ | refine W.exit rfl ?_ | refine X.seq ?_ | refine X.loop ?_ | refine X.hit ?_ | refine X.pass (by decide) ?_ | refine W.condT rfl (by rfl) ?_ | refine W.condF rfl (by rfl) ?_ | refine W.region tm rn_specs_ok rfl (by conv => lhs; simp [q0, q1, p0, h2, hs, hc, drop_1_add, t1, t2, t3]) fun _ => ?_ | refine W.regionD tm rn_specs_ok rfl (by conv => lhs; simp [q0, q1, p0, h2, hs, hc, drop_1_add, t1, t2, t3]) (by conv => lhs; simp) (by kernel_rfl) fun _ => ?_)
  simp [able, exec, Res.av, Cpu.cells, goto_pc, goto_r, set_pc, set_r, stored_r]
  first | exact Ret.dataR rfl (by conv => lhs; simp) (by conv => lhs; simp) (by first | rfl | simp [inlT, inlV]) | fail "no return here"
theorem rnext3 (c : Cpu) (p : Prg) {a b d : Int} (p0 : 0 ≤ c.pc) (h2 : p.code[c.pc.toNat]? = some ⟨3, a, b, d⟩) :
    W Try.prog (Ret Try.prog Try.f14 (Res.av (next c p.code)) []) (codeOf Try.f14) [] ⟨199, [(0, .agg c.cells), (1, .agg p.cells)], []⟩ := by
  rw [next_at p0 h2]
  obtain ⟨code, s, hs, hc, pg⟩ := p
  dsimp only at h2
  have hk : c.pc.toNat < code.length := (List.getElem?_eq_some_iff.1 h2).1
  have q0 : ¬ c.pc < 0 := by omega
  have q1 : ¬ (code.length : Int) ≤ c.pc := by omega
  have ht : (if able ⟨3, a, b, d⟩ = true then exec c ⟨3, a, b, d⟩ else fault c) = three3 c ⟨3, a, b, d⟩ := by simp [able, exec, three3, f3]
  rw [ht]
  have hl : (three3 c ⟨3, a, b, d⟩).2.length = 8 := by unfold three3; split <;> rfl
  obtain ⟨a0, a1, a2, a3, a4, a5, a6, a7, hl⟩ := eight _ hl
  generalize hq : three3 c ⟨3, a, b, d⟩ = q at hl
  obtain ⟨u1, u2⟩ := q
  dsimp only at hl
  subst hl
  repeat (first | refine N.seq ?_ | refine N.blk ?_ | refine W.seq rfl ?_ | refine W.block rfl ?_ | refine W.skip rfl ?_ | refine W.ret rfl ?_ | refine N.nil ?_ | refine N.loop ?_ | refine W.exit rfl ?_ | refine X.seq ?_ | refine X.loop ?_ | refine X.hit ?_ | refine X.pass (by decide) ?_ | refine W.condT rfl (by rfl) ?_ | refine W.condF rfl (by rfl) ?_ | refine W.region tm rn_specs_ok rfl (by conv => lhs; simp [q0, q1, p0, h2, hs, hc, drop_1_add, hq]) fun _ => ?_ | refine W.regionD tm rn_specs_ok rfl (by conv => lhs; simp [q0, q1, p0, h2, hs, hc, drop_1_add, hq]) (by conv => lhs; simp) (by kernel_rfl) fun _ => ?_)
  simp only [Res.av, Cpu.cells, List.map_cons, List.map_nil]
  first | exact Ret.dataR rfl (by conv => lhs; simp) (by conv => lhs; simp) (by first | rfl | simp [inlT, inlV]) | fail "no return here"
theorem rnext4 (c : Cpu) (p : Prg) {a b d : Int} (p0 : 0 ≤ c.pc) (h2 : p.code[c.pc.toNat]? = some ⟨4, a, b, d⟩) :
    W Try.prog (Ret Try.prog Try.f14 (Res.av (next c p.code)) []) (codeOf Try.f14) [] ⟨199, [(0, .agg c.cells), (1, .agg p.cells)], []⟩ := by
  rw [next_at p0 h2]
  obtain ⟨code, s, hs, hc, pg⟩ := p
  dsimp only at h2
  have hk : c.pc.toNat < code.length := (List.getElem?_eq_some_iff.1 h2).1
  have q0 : ¬ c.pc < 0 := by omega
  have q1 : ¬ (code.length : Int) ≤ c.pc := by omega
  have ht : (if able ⟨4, a, b, d⟩ = true then exec c ⟨4, a, b, d⟩ else fault c) = three3 c ⟨4, a, b, d⟩ := by simp [able, exec, three3, f3]
  rw [ht]
  have hl : (three3 c ⟨4, a, b, d⟩).2.length = 8 := by unfold three3; split <;> rfl
  obtain ⟨a0, a1, a2, a3, a4, a5, a6, a7, hl⟩ := eight _ hl
  generalize hq : three3 c ⟨4, a, b, d⟩ = q at hl
  obtain ⟨u1, u2⟩ := q
  dsimp only at hl
  subst hl
  repeat (first | refine N.seq ?_ | refine N.blk ?_ | refine W.seq rfl ?_ | refine W.block rfl ?_ | refine W.skip rfl ?_ | refine W.ret rfl ?_ | refine N.nil ?_ | refine N.loop ?_ | refine W.exit rfl ?_ | refine X.seq ?_ | refine X.loop ?_ | refine X.hit ?_ | refine X.pass (by decide) ?_ | refine W.condT rfl (by rfl) ?_ | refine W.condF rfl (by rfl) ?_ | refine W.region tm rn_specs_ok rfl (by conv => lhs; simp [q0, q1, p0, h2, hs, hc, drop_1_add, hq]) fun _ => ?_ | refine W.regionD tm rn_specs_ok rfl (by conv => lhs; simp [q0, q1, p0, h2, hs, hc, drop_1_add, hq]) (by conv => lhs; simp) (by kernel_rfl) fun _ => ?_)
  simp only [Res.av, Cpu.cells, List.map_cons, List.map_nil]
  first | exact Ret.dataR rfl (by conv => lhs; simp) (by conv => lhs; simp) (by first | rfl | simp [inlT, inlV]) | fail "no return here"
theorem rnext5 (c : Cpu) (p : Prg) {a b d : Int} (p0 : 0 ≤ c.pc) (h2 : p.code[c.pc.toNat]? = some ⟨5, a, b, d⟩) :
    W Try.prog (Ret Try.prog Try.f14 (Res.av (next c p.code)) []) (codeOf Try.f14) [] ⟨199, [(0, .agg c.cells), (1, .agg p.cells)], []⟩ := by
  rw [next_at p0 h2]
  obtain ⟨code, s, hs, hc, pg⟩ := p
  dsimp only at h2
  have hk : c.pc.toNat < code.length := (List.getElem?_eq_some_iff.1 h2).1
  have q0 : ¬ c.pc < 0 := by omega
  have q1 : ¬ (code.length : Int) ≤ c.pc := by omega
  have ht : (if able ⟨5, a, b, d⟩ = true then exec c ⟨5, a, b, d⟩ else fault c) = three3 c ⟨5, a, b, d⟩ := by simp [able, exec, three3, f3]
  rw [ht]
  have hl : (three3 c ⟨5, a, b, d⟩).2.length = 8 := by unfold three3; split <;> rfl
  obtain ⟨a0, a1, a2, a3, a4, a5, a6, a7, hl⟩ := eight _ hl
  generalize hq : three3 c ⟨5, a, b, d⟩ = q at hl
  obtain ⟨u1, u2⟩ := q
  dsimp only at hl
  subst hl
  repeat (first | refine N.seq ?_ | refine N.blk ?_ | refine W.seq rfl ?_ | refine W.block rfl ?_ | refine W.skip rfl ?_ | refine W.ret rfl ?_ | refine N.nil ?_ | refine N.loop ?_ | refine W.exit rfl ?_ | refine X.seq ?_ | refine X.loop ?_ | refine X.hit ?_ | refine X.pass (by decide) ?_ | refine W.condT rfl (by rfl) ?_ | refine W.condF rfl (by rfl) ?_ | refine W.region tm rn_specs_ok rfl (by conv => lhs; simp [q0, q1, p0, h2, hs, hc, drop_1_add, hq]) fun _ => ?_ | refine W.regionD tm rn_specs_ok rfl (by conv => lhs; simp [q0, q1, p0, h2, hs, hc, drop_1_add, hq]) (by conv => lhs; simp) (by kernel_rfl) fun _ => ?_)
  simp only [Res.av, Cpu.cells, List.map_cons, List.map_nil]
  first | exact Ret.dataR rfl (by conv => lhs; simp) (by conv => lhs; simp) (by first | rfl | simp [inlT, inlV]) | fail "no return here"
theorem rnext6 (c : Cpu) (p : Prg) {a b d : Int} (p0 : 0 ≤ c.pc) (h2 : p.code[c.pc.toNat]? = some ⟨6, a, b, d⟩) :
    W Try.prog (Ret Try.prog Try.f14 (Res.av (next c p.code)) []) (codeOf Try.f14) [] ⟨199, [(0, .agg c.cells), (1, .agg p.cells)], []⟩ := by
  rw [next_at p0 h2]
  obtain ⟨code, s, hs, hc, pg⟩ := p
  dsimp only at h2
  have hk : c.pc.toNat < code.length := (List.getElem?_eq_some_iff.1 h2).1
  have q0 : ¬ c.pc < 0 := by omega
  have q1 : ¬ (code.length : Int) ≤ c.pc := by omega
  have ht : (if able ⟨6, a, b, d⟩ = true then exec c ⟨6, a, b, d⟩ else fault c) = three3 c ⟨6, a, b, d⟩ := by simp [able, exec, three3, f3]
  rw [ht]
  have hl : (three3 c ⟨6, a, b, d⟩).2.length = 8 := by unfold three3; split <;> rfl
  obtain ⟨a0, a1, a2, a3, a4, a5, a6, a7, hl⟩ := eight _ hl
  generalize hq : three3 c ⟨6, a, b, d⟩ = q at hl
  obtain ⟨u1, u2⟩ := q
  dsimp only at hl
  subst hl
  repeat (first | refine N.seq ?_ | refine N.blk ?_ | refine W.seq rfl ?_ | refine W.block rfl ?_ | refine W.skip rfl ?_ | refine W.ret rfl ?_ | refine N.nil ?_ | refine N.loop ?_ | refine W.exit rfl ?_ | refine X.seq ?_ | refine X.loop ?_ | refine X.hit ?_ | refine X.pass (by decide) ?_ | refine W.condT rfl (by rfl) ?_ | refine W.condF rfl (by rfl) ?_ | refine W.region tm rn_specs_ok rfl (by conv => lhs; simp [q0, q1, p0, h2, hs, hc, drop_1_add, hq]) fun _ => ?_ | refine W.regionD tm rn_specs_ok rfl (by conv => lhs; simp [q0, q1, p0, h2, hs, hc, drop_1_add, hq]) (by conv => lhs; simp) (by kernel_rfl) fun _ => ?_)
  simp only [Res.av, Cpu.cells, List.map_cons, List.map_nil]
  first | exact Ret.dataR rfl (by conv => lhs; simp) (by conv => lhs; simp) (by first | rfl | simp [inlT, inlV]) | fail "no return here"
theorem rnext7 (c : Cpu) (p : Prg) {a b d : Int} (p0 : 0 ≤ c.pc) (h2 : p.code[c.pc.toNat]? = some ⟨7, a, b, d⟩) :
    W Try.prog (Ret Try.prog Try.f14 (Res.av (next c p.code)) []) (codeOf Try.f14) [] ⟨199, [(0, .agg c.cells), (1, .agg p.cells)], []⟩ := by
  rw [next_at p0 h2]
  obtain ⟨code, s, hs, hc, pg⟩ := p
  dsimp only at h2
  have hk : c.pc.toNat < code.length := (List.getElem?_eq_some_iff.1 h2).1
  have q0 : ¬ c.pc < 0 := by omega
  have q1 : ¬ (code.length : Int) ≤ c.pc := by omega
  have ht : (if able ⟨7, a, b, d⟩ = true then exec c ⟨7, a, b, d⟩ else fault c) = three3 c ⟨7, a, b, d⟩ := by simp [able, exec, three3, f3]
  rw [ht]
  have hl : (three3 c ⟨7, a, b, d⟩).2.length = 8 := by unfold three3; split <;> rfl
  obtain ⟨a0, a1, a2, a3, a4, a5, a6, a7, hl⟩ := eight _ hl
  generalize hq : three3 c ⟨7, a, b, d⟩ = q at hl
  obtain ⟨u1, u2⟩ := q
  dsimp only at hl
  subst hl
  repeat (first | refine N.seq ?_ | refine N.blk ?_ | refine W.seq rfl ?_ | refine W.block rfl ?_ | refine W.skip rfl ?_ | refine W.ret rfl ?_ | refine N.nil ?_ | refine N.loop ?_ | refine W.exit rfl ?_ | refine X.seq ?_ | refine X.loop ?_ | refine X.hit ?_ | refine X.pass (by decide) ?_ | refine W.condT rfl (by rfl) ?_ | refine W.condF rfl (by rfl) ?_ | refine W.region tm rn_specs_ok rfl (by conv => lhs; simp [q0, q1, p0, h2, hs, hc, drop_1_add, hq]) fun _ => ?_ | refine W.regionD tm rn_specs_ok rfl (by conv => lhs; simp [q0, q1, p0, h2, hs, hc, drop_1_add, hq]) (by conv => lhs; simp) (by kernel_rfl) fun _ => ?_)
  simp only [Res.av, Cpu.cells, List.map_cons, List.map_nil]
  first | exact Ret.dataR rfl (by conv => lhs; simp) (by conv => lhs; simp) (by first | rfl | simp [inlT, inlV]) | fail "no return here"
theorem rnext_bad (c : Cpu) (p : Prg) {x : Ins} (p0 : 0 ≤ c.pc) (h2 : p.code[c.pc.toNat]? = some x) (n0 : x.op ≠ 0) (n1 : x.op ≠ 1) (n2 : x.op ≠ 2) (n3 : x.op ≠ 3) (n4 : x.op ≠ 4) (n5 : x.op ≠ 5) (n6 : x.op ≠ 6) (n7 : x.op ≠ 7) (n8 : x.op ≠ 8) (n9 : x.op ≠ 9) (n10 : x.op ≠ 10) (n11 : x.op ≠ 11) (n12 : x.op ≠ 12) :
    W Try.prog (Ret Try.prog Try.f14 (Res.av (next c p.code)) []) (codeOf Try.f14) [] ⟨199, [(0, .agg c.cells), (1, .agg p.cells)], []⟩ := by
  rw [next_at p0 h2]
  have ha : able x = false := by simp [able, *]
  rw [ha]
  simp only [Bool.false_eq_true, if_false]
  obtain ⟨code, s, hs, hc, pg⟩ := p
  dsimp only at h2
  have hk : c.pc.toNat < code.length := (List.getElem?_eq_some_iff.1 h2).1
  have q0 : ¬ c.pc < 0 := by omega
  have q1 : ¬ (code.length : Int) ≤ c.pc := by omega
  obtain ⟨o, a, b, d⟩ := x
  dsimp only at n0 n1 n2 n3 n4 n5 n6 n7 n8 n9 n10 n11 n12
  repeat (first | refine N.seq ?_ | refine N.blk ?_ | refine W.seq rfl ?_ | refine W.block rfl ?_ | refine W.skip rfl ?_ | refine W.ret rfl ?_ | refine N.nil ?_ | refine N.loop ?_ | refine W.exit rfl ?_ | refine X.seq ?_ | refine X.loop ?_ | refine X.hit ?_ | refine X.pass (by decide) ?_ | refine W.condT rfl (by rfl) ?_ | refine W.condF rfl (by rfl) ?_ | refine W.region tm rn_specs_ok rfl (by conv => lhs; simp [q0, q1, p0, h2, hs, hc, drop_1_add, n0, n1, n2, n3, n4, n5, n6, n7, n8, n9, n10, n11, n12, beq_false_of_ne n0, beq_false_of_ne n1, beq_false_of_ne n2, beq_false_of_ne n3, beq_false_of_ne n4, beq_false_of_ne n5, beq_false_of_ne n6, beq_false_of_ne n7, beq_false_of_ne n8, beq_false_of_ne n9, beq_false_of_ne n10, beq_false_of_ne n11, beq_false_of_ne n12]) fun _ => ?_ | refine W.regionD tm rn_specs_ok rfl (by conv => lhs; simp [q0, q1, p0, h2, hs, hc, drop_1_add, n0, n1, n2, n3, n4, n5, n6, n7, n8, n9, n10, n11, n12, beq_false_of_ne n0, beq_false_of_ne n1, beq_false_of_ne n2, beq_false_of_ne n3, beq_false_of_ne n4, beq_false_of_ne n5, beq_false_of_ne n6, beq_false_of_ne n7, beq_false_of_ne n8, beq_false_of_ne n9, beq_false_of_ne n10, beq_false_of_ne n11, beq_false_of_ne n12]) (by conv => lhs; simp) (by kernel_rfl) fun _ => ?_)
  simp only [fault, Res.av, Cpu.cells, List.map_cons, List.map_nil]
  first | exact Ret.dataR rfl (by conv => lhs; simp) (by conv => lhs; simp) (by first | rfl | simp [inlT, inlV]) | fail "no return here"
theorem rnext_ok : FnC Try.prog 14 nextS := by
  refine FnC.walk 14 (fn := Try.f14) Try.func14 rfl (by kernel_rfl) fun y => ?_
  obtain ⟨c, p⟩ := y
  change W Try.prog (Ret Try.prog Try.f14 (Res.av (next c p.code)) []) (codeOf Try.f14) [] ⟨199, [(0, .agg c.cells), (1, .agg p.cells)], []⟩
  by_cases h0 : c.pc < 0
  · exact rnext_out c p (.inl h0)
  by_cases h1 : (p.code.length : Int) ≤ c.pc
  · exact rnext_out c p (.inr ⟨h0, h1⟩)
  have hk : 0 ≤ c.pc := by omega
  obtain ⟨x, hx⟩ := get_lt (l := p.code) (i := c.pc.toNat) (by omega)
  by_cases n0 : x.op = 0
  · obtain ⟨o, a, b, d⟩ := x; obtain rfl : o = 0 := n0; exact rnext0 c p hk hx
  by_cases n1 : x.op = 1
  · obtain ⟨o, a, b, d⟩ := x; obtain rfl : o = 1 := n1; exact rnext1 c p hk hx
  by_cases n2 : x.op = 2
  · obtain ⟨o, a, b, d⟩ := x; obtain rfl : o = 2 := n2; exact rnext2 c p hk hx
  by_cases n3 : x.op = 3
  · obtain ⟨o, a, b, d⟩ := x; obtain rfl : o = 3 := n3; exact rnext3 c p hk hx
  by_cases n4 : x.op = 4
  · obtain ⟨o, a, b, d⟩ := x; obtain rfl : o = 4 := n4; exact rnext4 c p hk hx
  by_cases n5 : x.op = 5
  · obtain ⟨o, a, b, d⟩ := x; obtain rfl : o = 5 := n5; exact rnext5 c p hk hx
  by_cases n6 : x.op = 6
  · obtain ⟨o, a, b, d⟩ := x; obtain rfl : o = 6 := n6; exact rnext6 c p hk hx
  by_cases n7 : x.op = 7
  · obtain ⟨o, a, b, d⟩ := x; obtain rfl : o = 7 := n7; exact rnext7 c p hk hx
  by_cases n8 : x.op = 8
  · obtain ⟨o, a, b, d⟩ := x; obtain rfl : o = 8 := n8; exact rnext8 c p hk hx
  by_cases n9 : x.op = 9
  · obtain ⟨o, a, b, d⟩ := x; obtain rfl : o = 9 := n9; exact rnext9 c p hk hx
  by_cases n10 : x.op = 10
  · obtain ⟨o, a, b, d⟩ := x; obtain rfl : o = 10 := n10; exact rnext10 c p hk hx
  by_cases n11 : x.op = 11
  · obtain ⟨o, a, b, d⟩ := x; obtain rfl : o = 11 := n11; exact rnext11 c p hk hx
  by_cases n12 : x.op = 12
  · obtain ⟨o, a, b, d⟩ := x; obtain rfl : o = 12 := n12; exact rnext12 c p hk hx
  exact rnext_bad c p hk hx n0 n1 n2 n3 n4 n5 n6 n7 n8 n9 n10 n11 n12
end Go.Abs.Cp
