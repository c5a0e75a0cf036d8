/- The statement on steps: the walk. Conditions: none. -/
import Derived.Test.YtldfmgiglcajcaaCpW3
namespace Go.Abs.Cp
open Go Go.Proofs Go.Abs
set_option maxRecDepth 100000
set_option maxHeartbeats 8000000
set_option linter.unusedSimpArgs false
set_option linter.unusedVariables false
theorem keep_fun : ∃ (f : PrgK → Bool) (S : SpecFn), FnC Try.prog 9 S ∧ ∀ p : PrgK, S [.agg [.list 4 (p.code.map Ins.cells), .list 1 (p.strs.map strC), .int .i64 p.pages]] [] = some (.bool (f p), []) := by
  obtain ⟨S, hS, h⟩ := keep_ok
  have h' : ∀ x : PrgK, ∃ b : Bool, S (encKP x) [] = some (.bool b, []) := fun x => by
    obtain ⟨r, h1, b, rfl⟩ := h x
    exact ⟨b, h1⟩
  obtain ⟨f, hf⟩ := Classical.axiomOfChoice h'
  exact ⟨f, S, hS, hf⟩
theorem eq42 (a0 a1 a2 a3 a4 a5 a6 a7 : Int) : eqV Try.prog 9 42 (.agg [.int .i64 a0, .int .i64 a1, .int .i64 a2, .int .i64 a3, .int .i64 a4, .int .i64 a5, .int .i64 a6, .int .i64 a7]) (.agg [.int .i64 a0, .int .i64 a1, .int .i64 a2, .int .i64 a3, .int .i64 a4, .int .i64 a5, .int .i64 a6, .int .i64 a7]) = some true := by
  simp [eqV, eqFs, eqIs, partV, List.range, List.range.loop, tc2, ti2]
theorem tg42 : Try.prog.eqGuardType Try.prog.depth 42 = false := by kernel_rfl
/-- What the rounds lean on. -/
def OutI (kd : Nat) (cs : List Cpu) (cd : List Ins) (p1 : Prg) (pg : Int) (x : Ins) (g g12 g61 g768 : Nat) (h : NL ABlk) : Prop :=
  lk h 96 = some { gen := 1, kind := 2, elem := 28, size := 3, inl := false, rows := [[.list 4 (p1.code.map Ins.cells), p1.s, .int .i64 p1.p]] } ∧
  lk h 176 = some { gen := 1, kind := 2, elem := 28, size := 3, inl := false, rows := [[.sl 512 g 0 cd.length, .sl 513 1 0 8, .int .i64 pg]] } ∧
  lk h 512 = some { gen := g, kind := kd, elem := 31, size := 4, inl := true, rows := cd.map Ins.cells } ∧
  lk h 513 = some { gen := 1, kind := kd, elem := 9, size := 1, inl := true, rows := pathRows } ∧
  lk h 208 = some { gen := g12, kind := 2, elem := 28, size := 3, inl := false, rows := [[.sl 768 g768 0 1, .nils, .int .i64 0]] } ∧
  lk h 768 = some { gen := g768, kind := kd, elem := 31, size := 4, inl := true, rows := [[.int .i64 x.op, .int .i64 x.a, .int .i64 x.b, .int .i64 x.c]] } ∧
  lk h 992 = some { gen := g61, kind := 2, elem := 24, size := 9, inl := true, rows := cs.map Cpu.cells }
def encSt (x : Cpu × PrgK × List UInt8 × Ins) : List AV := [.agg x.1.cells, .agg x.2.1.cells, .list 1 (x.2.2.1.map byte), .agg x.2.2.2.cells]
noncomputable def lawTS : SpecFn := mkS encSt fun _ => (.bool true, [])
attribute [local simp] runL stepA execA_eq skipA run_ret run_fail run_get run_put run_asm num lk st lk_st putA AS.ev ofValue ofFlat mkv splice fieldAddrA buildA fillA runF gdst pickA unOpA extractA resVs resV pack frzT inlT inlV frzV frzVs frzL frz1 newId AV.cellsOf AV.flat AV.flat2 specOf loadA_runR renL fF handB renB AV.ren backF backL idsOf freshIds refsL refsB AV.refs List.range List.range.loop placesA sliceRows rowsOf convertA sliceArrA sliceA bndA nilCheckA arrayAtA mmA lookupA keyOf keyOK findA keyEqA foundA makeMapA mapUpdateA appendA rowsA indexA partA fieldA retE2 frqT frqV frqVs frqL frq1 reachE blkRefs outE nodupE firstE seqO expB2 expF Cpu.cells Cpu.len Cpu.take sane_run take_len_map paths_take paths_len get_1_add take_1_add PrgK.cells Ins.cells
theorem lawT_ok : FnC Try.prog 3 lawTS := by
  obtain ⟨fP, gP, dP, SP, okP, abP, eqP⟩ := program_fun
  obtain ⟨fI, gI, SI, okI, abI, eqI⟩ := instr_fun
  obtain ⟨fK, SK, okK, eqK⟩ := keep_fun
  have ok : ∀ p ∈ ([(8, ⟨0, runFn Try.prog 1000 10 8⟩), (9, ⟨0, SK⟩), (10, ⟨3, newS⟩), (11, ⟨3, SP⟩), (12, ⟨3, SI⟩), (13, ⟨0, nextS⟩), (14, ⟨0, nextS⟩)] : NL Spec), FnC Try.prog p.1 p.2.fn := by
    simp only [List.mem_cons, List.not_mem_nil, or_false]
    rintro p (rfl | rfl | rfl | rfl | rfl | rfl | rfl)
    · exact sane_ok
    · exact okK
    · exact new_ok
    · exact okP
    · exact okI
    · exact next_ok
    · exact rnext_ok
  refine FnC.walk 3 (fn := Try.f3) Try.func3 rfl (by kernel_rfl) fun y => ?_
  obtain ⟨c, ⟨code, strs, pages⟩, l, o, xa, xb, xc⟩ := y
  change W _ _ _ _ ⟨98, [(0, .agg c.cells), (1, .agg (PrgK.cells ⟨code, strs, pages⟩)), (2, .list 1 (l.map byte)), (3, .agg (Ins.cells ⟨o, xa, xb, xc⟩))], []⟩
  have hK := eqK ⟨code, strs, pages⟩
  dsimp only at hK
  clear eqK
  have hnew := newS_eq' l
  generalize l.take 400 = m at hnew
  rcases Bool.eq_false_or_eq_true (fK ⟨code, strs, pages⟩) with hk | hk
  · rw [hk] at hK
    obtain ⟨hab, hlen⟩ := abP m
    have hP := eqP m
    clear eqP
    generalize fP m = code2 at hP hab hlen
    generalize gP m = pages2 at hP
    generalize dP m = l2 at hP
    repeat (first | refine N.seq ?_ | refine N.blk ?_ | refine W.seq rfl ?_ | refine W.block rfl ?_ | refine W.skip rfl ?_ | refine W.ret rfl ?_ | refine N.nil ?_ | refine N.loop ?_ | refine W.exit rfl ?_ | refine X.seq ?_ | refine X.loop ?_ | refine X.hit ?_ | refine X.pass (by decide) ?_ | refine W.condT rfl (by rfl) ?_ | refine W.condF rfl (by rfl) ?_ | refine W.region tm ok rfl (by conv => lhs; simp [hK, hnew, hP]) fun _ => ?_ | refine W.regionD tm ok rfl (by conv => lhs; simp [hK, hnew, hP]) (by conv => lhs; simp) (by kernel_rfl) fun _ => ?_)
    refine W.loop rfl (ι := { q : Nat × List Ins × Nat × NL ABlk × List UInt8 // q.1 ≤ 3 ∧ q.2.1.length + q.1 ≤ 64 ∧
        lk q.2.2.2.1 80 = some { gen := 1, kind := 2, elem := 24, size := 9, inl := false, rows := [.int .i64 c.pc :: c.r.map (.int .i64)] } ∧
        lk q.2.2.2.1 96 = some { gen := 1, kind := 2, elem := 28, size := 3, inl := false, rows := [[.list 4 (code.map Ins.cells), .list 1 (strs.map strC), .int .i64 pages]] } ∧
        lk q.2.2.2.1 128 = some { gen := 1, kind := 2, elem := 31, size := 4, inl := false, rows := [[.int .i64 o, .int .i64 xa, .int .i64 xb, .int .i64 xc]] } ∧
        lk q.2.2.2.1 176 = some { gen := 1, kind := 2, elem := 28, size := 3, inl := false, rows := [[.sl 512 q.2.2.1 0 q.2.1.length, .sl 513 1 0 8, .int .i64 pages2]] } ∧
        lk q.2.2.2.1 480 = some { gen := 1, kind := 2, elem := 56, size := 1, inl := false, rows := [[.list 1 (q.2.2.2.2.map byte)]] } ∧
        lk q.2.2.2.1 512 = some { gen := q.2.2.1, kind := 2, elem := 31, size := 4, inl := true, rows := q.2.1.map Ins.cells } ∧
        lk q.2.2.2.1 513 = some { gen := 1, kind := 2, elem := 9, size := 1, inl := true, rows := pathRows } })
      (fun q => ⟨98, [(4, .ptr 80 1 0 0), (5, .ptr 96 1 0 0), (7, .ptr 128 1 0 0), (9, .ptr 480 1 0 0), (10, .ptr 176 1 0 0), (11, .int .i64 q.1.1)], q.1.2.2.2.1⟩) (fun q => q.1.1)
      ⟨(3, code2, 1, _, l2), by simp, by dsimp only; omega, by rfl, by rfl, by rfl, by rfl, by rfl, by rfl, by rfl⟩ (AS.le_of rfl ⟨rfl, rfl, rfl, rfl, rfl, rfl, trivial⟩ (fun _ => rfl)) ?_
    clear hP hnew hK
    rintro ⟨⟨k, cd, g, h, d⟩, k3, k64, e80, e96, e128, e176, e480, e512, e513⟩
    dsimp only at k3 k64 e80 e96 e128 e176 e480 e512 e513 ⊢
    match k, k3, k64 with
    | m + 1, k3, k64 =>
      have hm : (0 : Int) < (m : Int) + 1 := by omega
      have wm : IntKind.i64.wrap (m : Int) = m := w64 (by omega) (by omega)
      have s1 : cd.length + 1 ≤ 100 := by omega
      repeat (first | refine N.seq ?_ | refine N.blk ?_ | refine W.seq rfl ?_ | refine W.block rfl ?_ | refine W.skip rfl ?_ | refine W.ret rfl ?_ | refine N.nil ?_ | refine N.loop ?_ | refine W.exit rfl ?_ | refine X.seq ?_ | refine X.loop ?_ | refine X.hit ?_ | refine X.pass (by decide) ?_ | refine W.condT rfl (by rfl) ?_ | refine W.condF rfl (by rfl) ?_ | refine W.region tm ok rfl (by conv => lhs; simp [e176, e480, e512, hm, wm, eqI, cap32 s1, capL s1, maxLen]) fun _ => ?_ | refine W.regionD tm ok rfl (by conv => lhs; simp [e176, e480, e512, hm, wm, eqI, cap32 s1, capL s1, maxLen]) (by conv => lhs; simp) (by kernel_rfl) fun _ => ?_)
      refine ⟨⟨(m, cd ++ [fI d cd.length], g + 1, _, gI d cd.length), by dsimp only; omega, by simp; omega, by simp [lk_st, e80], by simp [lk_st, e96], by simp [lk_st, e128], by simp [lk_st], by simp [lk_st], by simp [lk_st, Ins.cells], by simp [lk_st, e513]⟩, by dsimp only; omega, AS.le_of rfl ⟨rfl, rfl, rfl, rfl, rfl, rfl, trivial⟩ (fun _ => rfl)⟩
    | 0, k3, k64 =>
      repeat (first | refine N.seq ?_ | refine N.blk ?_ | refine W.seq rfl ?_ | refine W.block rfl ?_ | refine W.skip rfl ?_ | refine W.ret rfl ?_ | refine N.nil ?_ | refine N.loop ?_ | refine W.exit rfl ?_ | refine X.seq ?_ | refine X.loop ?_ | refine X.hit ?_ | refine X.pass (by decide) ?_ | refine W.condT rfl (by rfl) ?_ | refine W.condF rfl (by rfl) ?_ | refine W.region tm ok rfl (by conv => lhs; simp [e80, e96, e128, e176, e480, e512, e513, maxLen]) fun _ => ?_ | refine W.regionD tm ok rfl (by conv => lhs; simp [e80, e96, e128, e176, e480, e512, e513, maxLen]) (by conv => lhs; simp) (by kernel_rfl) fun _ => ?_)
      generalize hg12 : ((lk h 208).getD { }).gen + 1 = g12
      generalize hg61 : ((lk h 992).getD { }).gen + 1 = g61
      generalize hg768 : ((lk h 768).getD { }).gen + 1 = g768
      obtain ⟨pc2, hpc2⟩ : ∃ pc2, pc2 = (IntKind.i64.wrap (c.pc.tmod 40 + 40)).tmod 40 := ⟨_, rfl⟩
      rw [← hpc2]
      refine W.loop rfl (ι := { q : Nat × Nat × NL ABlk // q.1 ≤ 3 ∧ (q.2.1 = 1 ∨ q.2.1 = 2) ∧ OutI q.2.1 [c, ⟨pc2, c.r, c.h⟩, ⟨0, c.r, c.h⟩] cd ⟨code, .list 1 (strs.map strC), rfl, rfl, pages⟩ pages2 ⟨o, xa, xb, xc⟩ g g12 g61 g768 q.2.2 })
        (fun q => ⟨98, [(5, .ptr 96 1 0 0), (10, .ptr 176 1 0 0), (12, .ptr 208 g12 0 0), (61, .sl 992 g61 0 3), (62, .int .i64 3), (63, .int .i64 q.1.1)], q.1.2.2⟩) (fun q => 3 - q.1.1)
        ⟨(0, 2, _), by simp, .inr rfl, ?_⟩ (AS.le_of rfl ⟨rfl, rfl, rfl, rfl, rfl, rfl, trivial⟩ (fun _ => rfl)) ?_
      · refine ⟨?_, ?_, ?_, ?_, ?_, ?_, ?_⟩ <;> simp [lk_st, e96, e176, e512, e513, Cpu.cells]
      clear e80 e96 e128 e176 e480 e512 e513 hg12 hg61 hg768 hpc2
      generalize hcs : [c, ⟨pc2, c.r, c.h⟩, ⟨0, c.r, c.h⟩] = cs
      have hcl : cs.length = 3 := by rw [← hcs]; rfl
      clear hcs
      generalize (⟨code, .list 1 (strs.map strC), rfl, rfl, pages⟩ : Prg) = p1
      rintro ⟨⟨i, kd, h2⟩, hi, hkd, e96, e176, e512, e513, e208, e768, e992⟩
      dsimp only at hi hkd e96 e176 e512 e513 e208 e768 e992 ⊢
      by_cases hi3 : i = 3
      · subst hi3
        have c3 : ((3 : Nat) : Int) = 3 := rfl
        repeat (first | refine N.seq ?_ | refine N.blk ?_ | refine W.seq rfl ?_ | refine W.block rfl ?_ | refine W.skip rfl ?_ | refine W.ret rfl ?_ | refine N.nil ?_ | refine N.loop ?_ | refine W.exit rfl ?_ | refine X.seq ?_ | refine X.loop ?_ | refine X.hit ?_ | refine X.pass (by decide) ?_ | refine W.condT rfl (by rfl) ?_ | refine W.condF rfl (by rfl) ?_ | refine W.region tm ok rfl (by conv => lhs; simp [c3]) fun _ => ?_ | refine W.regionD tm ok rfl (by conv => lhs; simp [c3]) (by conv => lhs; simp) (by kernel_rfl) fun _ => ?_)
        first | exact Ret.dataR rfl (by conv => lhs; simp) (by conv => lhs; simp) (by first | rfl | simp [inlT, inlV]) | fail "no return here"
      · have hilt : i < cs.length := by omega
        have hi' : (i : Int) < 3 := by omega
        have hil : ¬ cs.length ≤ i := by omega
        obtain ⟨ci, hci⟩ := get_lt hilt
        have wi : IntKind.i64.wrap ((i : Int) + 1) = ((i + 1 : Nat) : Int) := by rw [w64] <;> omega
        have hs := p1.hs
        have hc := p1.hc
        obtain ⟨ps, hps⟩ : ∃ ps : List Prg, ps = [p1, ⟨cd, .list 1 pathRows, rfl, rfl, pages2⟩, ⟨[⟨o, xa, xb, xc⟩], .nils, rfl, rfl, 0⟩] := ⟨_, rfl⟩
        have hpl : ps.length = 3 := by rw [hps]; rfl
        rcases hkd with rfl | rfl
        all_goals
          repeat (first | refine N.seq ?_ | refine N.blk ?_ | refine W.seq rfl ?_ | refine W.block rfl ?_ | refine W.skip rfl ?_ | refine W.ret rfl ?_ | refine N.nil ?_ | refine N.loop ?_ | refine W.exit rfl ?_ | refine X.seq ?_ | refine X.loop ?_ | refine X.hit ?_ | refine X.pass (by decide) ?_ | refine W.condT rfl (by rfl) ?_ | refine W.condF rfl (by rfl) ?_ | refine W.region tm ok rfl (by conv => lhs; simp [hi', hci, e96, e176, e512, e513, e208, e768, e992, Cpu.cells, hs, hc, maxLen]) fun _ => ?_ | refine W.regionD tm ok rfl (by conv => lhs; simp [hi', hci, e96, e176, e512, e513, e208, e768, e992, Cpu.cells, hs, hc, maxLen]) (by conv => lhs; simp) (by kernel_rfl) fun _ => ?_)
          refine W.loop rfl (ι := { q : Nat × Nat × Nat × NL ABlk // q.1 ≤ 3 ∧ OutI 1 cs cd p1 pages2 ⟨o, xa, xb, xc⟩ g g12 g61 g768 q.2.2.2 ∧
              lk q.2.2.2 272 = some { gen := q.2.1, kind := 2, elem := 24, size := 9, inl := false, rows := [.int .i64 ci.pc :: ci.r.map (.int .i64)] } ∧
              lk q.2.2.2 1136 = some { gen := q.2.2.1, kind := 2, elem := 28, size := 3, inl := true, rows := ps.map Prg.cells } })
            (fun q => ⟨98, [(5, .ptr 96 1 0 0), (10, .ptr 176 1 0 0), (12, .ptr 208 g12 0 0), (16, .ptr 272 q.1.2.1 0 0), (61, .sl 992 g61 0 3), (62, .int .i64 3), (63, .int .i64 i), (70, .sl 1136 q.1.2.2.1 0 3), (71, .int .i64 3), (72, .int .i64 q.1.1)], q.1.2.2.2⟩) (fun q => 3 - q.1.1)
            ⟨(0, ((lk h2 272).getD { }).gen + 1, ((lk h2 1136).getD { }).gen + 1, _), by simp, ?_, by simp [lk_st], by simp [lk_st, hps, Prg.cells, Ins.cells]⟩ (AS.le_of rfl ⟨rfl, rfl, rfl, rfl, rfl, rfl, rfl, rfl, rfl, rfl, trivial⟩ (fun _ => rfl)) ?_
          · refine ⟨?_, ?_, ?_, ?_, ?_, ?_, ?_⟩ <;> simp [lk_st, e96, e176, e512, e513, e208, e768, e992]
          clear e96 e176 e512 e513 e208 e768 e992 hs hc
          rintro ⟨⟨j, gc, g70, h3⟩, hj, hO, e272, e1136⟩
          dsimp only at hj hO e272 e1136 ⊢
          by_cases hj3 : j = 3
          · subst hj3
            have c3 : ((3 : Nat) : Int) = 3 := rfl
            repeat (first | refine N.seq ?_ | refine N.blk ?_ | refine W.seq rfl ?_ | refine W.block rfl ?_ | refine W.skip rfl ?_ | refine W.ret rfl ?_ | refine N.nil ?_ | refine N.loop ?_ | refine W.exit rfl ?_ | refine X.seq ?_ | refine X.loop ?_ | refine X.hit ?_ | refine X.pass (by decide) ?_ | refine W.condT rfl (by rfl) ?_ | refine W.condF rfl (by rfl) ?_ | refine W.region tm ok rfl (by conv => lhs; simp [c3, wi]) fun _ => ?_ | refine W.regionD tm ok rfl (by conv => lhs; simp [c3, wi]) (by conv => lhs; simp) (by kernel_rfl) fun _ => ?_)
            exact ⟨⟨(i + 1, 1, h3), by dsimp only; omega, .inl rfl, hO⟩, by dsimp only; omega, AS.le_of rfl ⟨rfl, rfl, rfl, rfl, rfl, rfl, trivial⟩ (fun _ => rfl)⟩
          · have hjlt : j < ps.length := by omega
            have hj' : (j : Int) < 3 := by omega
            have hjl : ¬ ps.length ≤ j := by omega
            obtain ⟨pj, hpj⟩ := get_lt hjlt
            have wj : IntKind.i64.wrap ((j : Int) + 1) = ((j + 1 : Nat) : Int) := by rw [w64] <;> omega
            have hs := pj.hs
            have hc := pj.hc
            obtain ⟨e96, e176, e512, e513, e208, e768, e992⟩ := hO
            have hN := nextS_eq ci pj
            obtain ⟨a0, a1, a2, a3, a4, a5, a6, a7, ha⟩ := eight _ (next_len ci pj.code)
            simp only [Res.av, Cpu.cells, Prg.cells, ha, List.map_cons, List.map_nil] at hN
            generalize (next ci pj.code).1 = dn' at hN
            have hq := eq24r dn'
            have hq2 := eq42 a0 a1 a2 a3 a4 a5 a6 a7
            repeat (first | refine N.seq ?_ | refine N.blk ?_ | refine W.seq rfl ?_ | refine W.block rfl ?_ | refine W.skip rfl ?_ | refine W.ret rfl ?_ | refine N.nil ?_ | refine N.loop ?_ | refine W.exit rfl ?_ | refine X.seq ?_ | refine X.loop ?_ | refine X.hit ?_ | refine X.pass (by decide) ?_ | refine W.condT rfl (by rfl) ?_ | refine W.condF rfl (by rfl) ?_ | refine W.region tm ok rfl (by conv => lhs; simp [hj', hpj, e272, e1136, Prg.cells, hs, hc, hN, eqlA, tg24, tg42, hq, hq2, wj]) fun _ => ?_ | refine W.regionD tm ok rfl (by conv => lhs; simp [hj', hpj, e272, e1136, Prg.cells, hs, hc, hN, eqlA, tg24, tg42, hq, hq2, wj]) (by conv => lhs; simp) (by kernel_rfl) fun _ => ?_)
            refine ⟨⟨(j + 1, gc, g70, _), by dsimp only; omega, ?_, by simp [lk_st, e272], by simp [lk_st, e1136, Prg.cells]⟩, by dsimp only; omega, AS.le_of rfl ⟨rfl, rfl, rfl, rfl, rfl, rfl, rfl, rfl, rfl, rfl, trivial⟩ (fun _ => rfl)⟩
            refine ⟨?_, ?_, ?_, ?_, ?_, ?_, ?_⟩ <;> simp [lk_st, e96, e176, e512, e513, e208, e768, e992]
  · rw [hk] at hK
    repeat (first | refine N.seq ?_ | refine N.blk ?_ | refine W.seq rfl ?_ | refine W.block rfl ?_ | refine W.skip rfl ?_ | refine W.ret rfl ?_ | refine N.nil ?_ | refine N.loop ?_ | refine W.exit rfl ?_ | refine X.seq ?_ | refine X.loop ?_ | refine X.hit ?_ | refine X.pass (by decide) ?_ | refine W.condT rfl (by rfl) ?_ | refine W.condF rfl (by rfl) ?_ | refine W.region tm ok rfl (by conv => lhs; simp [hK]) fun _ => ?_ | refine W.regionD tm ok rfl (by conv => lhs; simp [hK]) (by conv => lhs; simp) (by kernel_rfl) fun _ => ?_)
    first | exact Ret.dataR rfl (by conv => lhs; simp) (by conv => lhs; simp) (by first | rfl | simp [inlT, inlV]) | fail "no return here"
end Go.Abs.Cp
