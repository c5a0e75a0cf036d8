/- What the reference's small functions compute. Conditions: none. -/
import Derived.Test.YtldfmgiglcajcaaCpU
namespace Go.Abs.Cp
open Go Go.Proofs Go.Abs
set_option maxRecDepth 100000
set_option maxHeartbeats 4000000
set_option linter.unusedSimpArgs false
set_option linter.unusedVariables false
/-! ### fault -/
noncomputable def faultS : SpecFn := mkS encC fun c => (Res.av (fault c), [])
theorem faultS_eq (c : Cpu) : faultS [.agg (.int .i64 c.pc :: c.r.map (.int .i64))] [] = some (.tup [.agg (.int .i64 c.pc :: c.r.map (.int .i64)), .agg [.int .i64 4, .int .i64 0, .int .i64 0, .int .i64 0, .int .i64 0, .int .i64 0, .int .i64 0, .int .i64 0]], []) := mkS_eq encC_inj c
attribute [local simp] runL stepA execA_eq skipA run_ret run_fail run_get run_put run_asm num lk st lk_st putA AS.ev ofValue ofFlat mkv splice fieldAddrA buildA fillA runF gdst pickA unOpA extractA resVs resV pack frzT inlT inlV frzV frzVs frzL frz1 newId AV.cellsOf AV.flat AV.flat2 specOf loadA_runR renL fF handB renB AV.ren backF backL idsOf freshIds refsL refsB AV.refs List.range List.range.loop placesA sliceRows rowsOf convertA sliceArrA sliceA bndA nilCheckA arrayAtA mmA lookupA keyOf keyOK findA keyEqA foundA makeMapA mapUpdateA appendA rowsA indexA partA fieldA retE2 frqT frqV frqVs frqL frq1 reachE blkRefs outE nodupE firstE seqO expB2 expF Cpu.cells Cpu.len Cpu.take get_1_add take_1_add
theorem fault_ok : FnC Try.prog 31 faultS := by
  refine FnC.walk 31 (fn := Try.f31) Try.func31 rfl (by kernel_rfl) fun c => ?_
  change W _ _ _ _ ⟨6, [(0, .agg c.cells)], []⟩
  repeat (first | refine N.seq ?_ | refine N.blk ?_ | refine W.seq rfl ?_ | refine W.block rfl ?_ | refine W.skip rfl ?_ | refine W.ret rfl ?_ | refine N.nil ?_ | refine N.loop ?_ | refine W.exit rfl ?_ | refine X.seq ?_ | refine X.loop ?_ | refine X.hit ?_ | refine X.pass (by decide) ?_ | refine W.condT rfl (by rfl) ?_ | refine W.condF rfl (by rfl) ?_ | refine W.region tm no_specs rfl (by conv => lhs; simp) fun _ => ?_ | refine W.regionD tm no_specs rfl (by conv => lhs; simp) (by conv => lhs; simp) (by kernel_rfl) fun _ => ?_)
  simp only [fault, Res.av, Cpu.cells, List.map_cons, List.map_nil]
  first | exact Ret.dataR rfl (by conv => lhs; simp) (by conv => lhs; simp) (by first | rfl | simp [inlT, inlV]) | fail "no return here"
theorem stored_set_pc (c : Cpu) (k : Nat) (v : Int) : (stored (c.set k v)).pc = (stored c).pc := rfl
/-! ### three registers -/
def f3 (o a b : Int) : Int := if o = 3 then fAdd a b else if o = 4 then fSub a b else if o = 5 then fMul a b else if o = 6 then fLess a b else fEq a b
def three3 (c : Cpu) (x : Ins) : Res := if (reg x.a && reg x.b && reg x.c) = true then ((stored c).set x.a.toNat (f3 x.op (c.get x.b.toNat) (c.get x.c.toNat)), [0, 0, 0, 0, 0, 0, 0, 0]) else fault c
def encT (x : Cpu × Ins) : List AV := [.agg x.1.cells, .agg x.2.cells]
theorem encT_inj {β : Type} {f : Cpu × Ins → β} : ∀ x y, encT x = encT y → f x = f y := fun x y h => by
  simp only [encT, List.cons.injEq, AV.agg.injEq, and_true] at h
  rw [Prod.ext (Cpu.inj _ _ h.1) (Ins.inj _ _ h.2)]
noncomputable def threeS : SpecFn := mkS encT fun x => (Res.av (three3 x.1 x.2), [])
theorem threeS_eq (c : Cpu) (o a b d : Int) : threeS [.agg (.int .i64 c.pc :: c.r.map (.int .i64)), .agg [.int .i64 o, .int .i64 a, .int .i64 b, .int .i64 d]] [] = some (.tup [.agg (.int .i64 (three3 c ⟨o, a, b, d⟩).1.pc :: (three3 c ⟨o, a, b, d⟩).1.r.map (.int .i64)), .agg ((three3 c ⟨o, a, b, d⟩).2.map (.int .i64))], []) := mkS_eq encT_inj (c, ⟨o, a, b, d⟩)
noncomputable def t_specs : NL Spec := [(19, ⟨0, storedS⟩), (31, ⟨0, faultS⟩), (32, ⟨0, regS⟩), (41, ⟨0, flagS⟩)]
theorem t_specs_ok : ∀ p ∈ t_specs, FnC Try.prog p.1 p.2.fn := by
  simp only [t_specs, List.mem_cons, List.not_mem_nil, or_false]
  rintro p (rfl | rfl | rfl | rfl)
  · exact rstored_ok
  · exact fault_ok
  · exact reg_ok
  · exact truth_ok
attribute [local simp] t_specs faultS_eq regS_eq flagS_eq storedS_eq' storedS_set
theorem three_ok : FnC Try.prog 33 threeS := by
  refine FnC.walk 33 (fn := Try.f33) Try.func33 rfl (by kernel_rfl) fun x => ?_
  obtain ⟨c, o, a, b, d⟩ := x
  change W _ _ _ _ ⟨73, [(0, .agg c.cells), (1, .agg [.int .i64 o, .int .i64 a, .int .i64 b, .int .i64 d])], []⟩
  rcases Bool.eq_false_or_eq_true (reg a) with ra | ra
  · rcases Bool.eq_false_or_eq_true (reg b) with rb | rb
    · rcases Bool.eq_false_or_eq_true (reg d) with rd | rd
      · have hr : three3 c ⟨o, a, b, d⟩ = ((stored c).set a.toNat (f3 o (c.get b.toNat) (c.get d.toNat)), [0, 0, 0, 0, 0, 0, 0, 0]) := by simp [three3, ra, rb, rd]
        dsimp only
        rw [hr]
        obtain ⟨a, rfl, ha⟩ := reg_nat ra
        obtain ⟨b, rfl, hb⟩ := reg_nat rb
        obtain ⟨d, rfl, hd⟩ := reg_nat rd
        have sa := fun v => c.set_map (k := a) v ha
        have la : 1 + a + 1 ≤ 8 + 1 := by omega
        have qa : (a : Int) < 8 := by omega
        have gb := c.drop_eq hb
        have qb : (b : Int) < 8 := by omega
        have gd := c.drop_eq hd
        have qd : (d : Int) < 8 := by omega
        by_cases h3 : o = 3
        · subst h3
          repeat (first | refine N.seq ?_ | refine N.blk ?_ | refine W.seq rfl ?_ | refine W.block rfl ?_ | refine W.skip rfl ?_ | refine W.ret rfl ?_ | refine N.nil ?_ | refine N.loop ?_ | refine W.exit rfl ?_ | refine X.seq ?_ | refine X.loop ?_ | refine X.hit ?_ | refine X.pass (by decide) ?_ | refine W.condT rfl (by rfl) ?_ | refine W.condF rfl (by rfl) ?_ | refine W.region tm t_specs_ok rfl (by conv => lhs; simp [ra, rb, rd, drop_1_add, sa, la, qa, gb, qb, gd, qd]) fun _ => ?_ | refine W.regionD tm t_specs_ok rfl (by conv => lhs; simp [ra, rb, rd, drop_1_add, sa, la, qa, gb, qb, gd, qd]) (by conv => lhs; simp) (by kernel_rfl) fun _ => ?_)
          simp [Res.av, Cpu.cells, f3, fAdd, stored_r, set_pc, set_r]
          first | exact Ret.dataR rfl (by conv => lhs; simp [stored_set_pc]) (by conv => lhs; simp [stored_set_pc]) (by first | rfl | simp [inlT, inlV]) | fail "no return here"
        by_cases h4 : o = 4
        · subst h4
          repeat (first | refine N.seq ?_ | refine N.blk ?_ | refine W.seq rfl ?_ | refine W.block rfl ?_ | refine W.skip rfl ?_ | refine W.ret rfl ?_ | refine N.nil ?_ | refine N.loop ?_ | refine W.exit rfl ?_ | refine X.seq ?_ | refine X.loop ?_ | refine X.hit ?_ | refine X.pass (by decide) ?_ | refine W.condT rfl (by rfl) ?_ | refine W.condF rfl (by rfl) ?_ | refine W.region tm t_specs_ok rfl (by conv => lhs; simp [ra, rb, rd, drop_1_add, sa, la, qa, gb, qb, gd, qd]) fun _ => ?_ | refine W.regionD tm t_specs_ok rfl (by conv => lhs; simp [ra, rb, rd, drop_1_add, sa, la, qa, gb, qb, gd, qd]) (by conv => lhs; simp) (by kernel_rfl) fun _ => ?_)
          simp [Res.av, Cpu.cells, f3, fSub, stored_r, set_pc, set_r]
          first | exact Ret.dataR rfl (by conv => lhs; simp [stored_set_pc]) (by conv => lhs; simp [stored_set_pc]) (by first | rfl | simp [inlT, inlV]) | fail "no return here"
        by_cases h5 : o = 5
        · subst h5
          repeat (first | refine N.seq ?_ | refine N.blk ?_ | refine W.seq rfl ?_ | refine W.block rfl ?_ | refine W.skip rfl ?_ | refine W.ret rfl ?_ | refine N.nil ?_ | refine N.loop ?_ | refine W.exit rfl ?_ | refine X.seq ?_ | refine X.loop ?_ | refine X.hit ?_ | refine X.pass (by decide) ?_ | refine W.condT rfl (by rfl) ?_ | refine W.condF rfl (by rfl) ?_ | refine W.region tm t_specs_ok rfl (by conv => lhs; simp [ra, rb, rd, drop_1_add, sa, la, qa, gb, qb, gd, qd]) fun _ => ?_ | refine W.regionD tm t_specs_ok rfl (by conv => lhs; simp [ra, rb, rd, drop_1_add, sa, la, qa, gb, qb, gd, qd]) (by conv => lhs; simp) (by kernel_rfl) fun _ => ?_)
          simp [Res.av, Cpu.cells, f3, fMul, stored_r, set_pc, set_r]
          first | exact Ret.dataR rfl (by conv => lhs; simp [stored_set_pc]) (by conv => lhs; simp [stored_set_pc]) (by first | rfl | simp [inlT, inlV]) | fail "no return here"
        by_cases h6 : o = 6
        · subst h6
          repeat (first | refine N.seq ?_ | refine N.blk ?_ | refine W.seq rfl ?_ | refine W.block rfl ?_ | refine W.skip rfl ?_ | refine W.ret rfl ?_ | refine N.nil ?_ | refine N.loop ?_ | refine W.exit rfl ?_ | refine X.seq ?_ | refine X.loop ?_ | refine X.hit ?_ | refine X.pass (by decide) ?_ | refine W.condT rfl (by rfl) ?_ | refine W.condF rfl (by rfl) ?_ | refine W.region tm t_specs_ok rfl (by conv => lhs; simp [ra, rb, rd, drop_1_add, sa, la, qa, gb, qb, gd, qd]) fun _ => ?_ | refine W.regionD tm t_specs_ok rfl (by conv => lhs; simp [ra, rb, rd, drop_1_add, sa, la, qa, gb, qb, gd, qd]) (by conv => lhs; simp) (by kernel_rfl) fun _ => ?_)
          simp [Res.av, Cpu.cells, f3, fLess, stored_r, set_pc, set_r]
          first | exact Ret.dataR rfl (by conv => lhs; simp [stored_set_pc]) (by conv => lhs; simp [stored_set_pc]) (by first | rfl | simp [inlT, inlV]) | fail "no return here"
        · repeat (first | refine N.seq ?_ | refine N.blk ?_ | refine W.seq rfl ?_ | refine W.block rfl ?_ | refine W.skip rfl ?_ | refine W.ret rfl ?_ | refine N.nil ?_ | refine N.loop ?_ | refine W.exit rfl ?_ | refine X.seq ?_ | refine X.loop ?_ | refine X.hit ?_ | refine X.pass (by decide) ?_ | refine W.condT rfl (by rfl) ?_ | refine W.condF rfl (by rfl) ?_ | refine W.region tm t_specs_ok rfl (by conv => lhs; simp [ra, rb, rd, drop_1_add, sa, la, qa, gb, qb, gd, qd, h3, h4, h5, h6, beq_false_of_ne h3, beq_false_of_ne h4, beq_false_of_ne h5, beq_false_of_ne h6]) fun _ => ?_ | refine W.regionD tm t_specs_ok rfl (by conv => lhs; simp [ra, rb, rd, drop_1_add, sa, la, qa, gb, qb, gd, qd, h3, h4, h5, h6, beq_false_of_ne h3, beq_false_of_ne h4, beq_false_of_ne h5, beq_false_of_ne h6]) (by conv => lhs; simp) (by kernel_rfl) fun _ => ?_)
          simp [Res.av, Cpu.cells, f3, fEq, stored_r, set_pc, set_r, h3, h4, h5, h6]
          first | exact Ret.dataR rfl (by conv => lhs; simp [stored_set_pc]) (by conv => lhs; simp [stored_set_pc]) (by first | rfl | simp [inlT, inlV]) | fail "no return here"
      · have hr : three3 c ⟨o, a, b, d⟩ = fault c := by simp [three3, ra, rb, rd]
        dsimp only
        rw [hr]
        repeat (first | refine N.seq ?_ | refine N.blk ?_ | refine W.seq rfl ?_ | refine W.block rfl ?_ | refine W.skip rfl ?_ | refine W.ret rfl ?_ | refine N.nil ?_ | refine N.loop ?_ | refine W.exit rfl ?_ | refine X.seq ?_ | refine X.loop ?_ | refine X.hit ?_ | refine X.pass (by decide) ?_ | refine W.condT rfl (by rfl) ?_ | refine W.condF rfl (by rfl) ?_ | refine W.region tm t_specs_ok rfl (by conv => lhs; simp [ra, rb, rd]) fun _ => ?_ | refine W.regionD tm t_specs_ok rfl (by conv => lhs; simp [ra, rb, rd]) (by conv => lhs; simp) (by kernel_rfl) fun _ => ?_)
        simp only [fault, Res.av, Cpu.cells, List.map_cons, List.map_nil]
        first | exact Ret.dataR rfl (by conv => lhs; simp) (by conv => lhs; simp) (by first | rfl | simp [inlT, inlV]) | fail "no return here"
    · have hr : three3 c ⟨o, a, b, d⟩ = fault c := by simp [three3, ra, rb]
      dsimp only
      rw [hr]
      repeat (first | refine N.seq ?_ | refine N.blk ?_ | refine W.seq rfl ?_ | refine W.block rfl ?_ | refine W.skip rfl ?_ | refine W.ret rfl ?_ | refine N.nil ?_ | refine N.loop ?_ | refine W.exit rfl ?_ | refine X.seq ?_ | refine X.loop ?_ | refine X.hit ?_ | refine X.pass (by decide) ?_ | refine W.condT rfl (by rfl) ?_ | refine W.condF rfl (by rfl) ?_ | refine W.region tm t_specs_ok rfl (by conv => lhs; simp [ra, rb]) fun _ => ?_ | refine W.regionD tm t_specs_ok rfl (by conv => lhs; simp [ra, rb]) (by conv => lhs; simp) (by kernel_rfl) fun _ => ?_)
      simp only [fault, Res.av, Cpu.cells, List.map_cons, List.map_nil]
      first | exact Ret.dataR rfl (by conv => lhs; simp) (by conv => lhs; simp) (by first | rfl | simp [inlT, inlV]) | fail "no return here"
  · have hr : three3 c ⟨o, a, b, d⟩ = fault c := by simp [three3, ra]
    dsimp only
    rw [hr]
    repeat (first | refine N.seq ?_ | refine N.blk ?_ | refine W.seq rfl ?_ | refine W.block rfl ?_ | refine W.skip rfl ?_ | refine W.ret rfl ?_ | refine N.nil ?_ | refine N.loop ?_ | refine W.exit rfl ?_ | refine X.seq ?_ | refine X.loop ?_ | refine X.hit ?_ | refine X.pass (by decide) ?_ | refine W.condT rfl (by rfl) ?_ | refine W.condF rfl (by rfl) ?_ | refine W.region tm t_specs_ok rfl (by conv => lhs; simp [ra]) fun _ => ?_ | refine W.regionD tm t_specs_ok rfl (by conv => lhs; simp [ra]) (by conv => lhs; simp) (by kernel_rfl) fun _ => ?_)
    simp only [fault, Res.av, Cpu.cells, List.map_cons, List.map_nil]
    first | exact Ret.dataR rfl (by conv => lhs; simp) (by conv => lhs; simp) (by first | rfl | simp [inlT, inlV]) | fail "no return here"
end Go.Abs.Cp
