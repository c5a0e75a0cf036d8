/- The reference's plan, carrying out, settling. Conditions: none. -/
import Derived.Test.YtkalkcgbecbgpaaPo7
namespace Go.Abs.Po
open Go Go.Proofs Go.Abs
set_option maxRecDepth 100000
set_option maxHeartbeats 4000000
set_option linter.unusedSimpArgs false
set_option linter.unusedVariables false
noncomputable def dr_specs : NL Spec := [(37, ⟨0, refPickS⟩), (38, ⟨0, okS⟩), (39, ⟨1, atS⟩)]
theorem dr_specs_ok : ∀ p ∈ dr_specs, FnC Try.prog p.1 p.2.fn := by
  simp only [dr_specs, List.mem_cons, List.not_mem_nil, or_false]
  rintro p (rfl | rfl | rfl)
  · exact refPick_ok
  · exact okr_ok
  · exact at_ok
attribute [local simp] runL stepA execA_eq skipA run_ret run_fail run_get run_put run_asm num lk st lk_st putA AS.ev ofValue ofFlat mkv splice fieldAddrA buildA fillA runF gdst pickA unOpA extractA resVs resV pack frzT inlT inlV frzV frzVs frzL frz1 newId AV.cellsOf AV.flat AV.flat2 specOf loadA_runR capA copyA copyTo srcA sliceCA slice3A appendZA extA AV.place lenCA clearA clearTo expG expB3 List.zipWith renL fF handB renB AV.ren backF backL idsOf freshIds refsL refsB AV.refs List.range List.range.loop placesA sliceRows rowsOf convertA sliceArrA sliceA bndA nilCheckA arrayAtA mmA lookupA keyOf keyOK findA keyEqA foundA makeMapA mapUpdateA appendA rowsA indexA partA fieldA retE2 frqT frqV frqVs frqL frq1 reachE blkRefs outE nodupE firstE seqO expB2 expF instA take_len_map List.findIdx?_cons List.findIdx?_nil dr_specs
theorem decr_ok : FnC Try.prog 13 decS := by
  refine FnC.walk 13 (fn := Try.f13) Try.func13 rfl (by kernel_rfl) fun x => ?_
  obtain ⟨⟨l, hl⟩, ⟨gs, hg, hg'⟩, ⟨view, nodes, P, pl, hP, hn, hp⟩, t⟩ := x
  have hpk := refPickS_eq l
  have hok := okS_eq t
  have hcu := fun g n hg => atS_eq view nodes (.list 2 (pl.map Pl.cells)) pl g n (isP_plL pl) hn hp hg
  simp only [pickV, Ld.cells] at hpk
  dsimp only
  refine W.weak (σ' := ⟨85, [(0, .list 3 (l.map Ld.cells)), (1, .list 1 (gs.map gL)), (2, .agg (vA view nodes (.list 2 (pl.map Pl.cells)))), (3, .agg t.cells)], []⟩) (AS.le_of' rfl ⟨⟨_, rfl, AV.weaker_refl _⟩, ⟨_, rfl, AV.weaker_refl _⟩, ⟨_, rfl, vA_weak hP.weak⟩, ⟨_, rfl, AV.weaker_refl _⟩, trivial⟩ (fun _ => rfl)) ?_
  clear hP P
  unfold dec starts
  generalize (pick l).1 = a at *
  generalize (pick l).2.1 = b at *
  generalize (pick l).2.2 = ok at *
  cases h1 : t.ok with
  | false =>
    rw [h1] at hok
    repeat (first | refine N.seq ?_ | refine N.blk ?_ | refine W.seq rfl ?_ | refine W.block rfl ?_ | refine W.skip rfl ?_ | refine W.ret rfl ?_ | refine N.nil ?_ | refine N.loop ?_ | refine W.exit rfl ?_ | refine X.seq ?_ | refine X.loop ?_ | refine X.hit ?_ | refine X.pass (by decide) ?_ | refine W.condT rfl (by rfl) ?_ | refine W.condF rfl (by rfl) ?_ | refine W.region tm dr_specs_ok rfl (by conv => lhs; simp [vA, Tm.cells, Ld.cells, hpk, hok]) fun _ => ?_ | refine W.regionD tm dr_specs_ok rfl (by conv => lhs; simp [vA, Tm.cells, Ld.cells, hpk, hok]) (by conv => lhs; simp) (by kernel_rfl) fun _ => ?_)
    simp only [Bool.false_and, Bool.false_eq_true, if_false, pnV, if_true]
    first | exact Ret.dataR rfl (by conv => lhs; simp) (by conv => lhs; simp) (by first | rfl | simp [inlT, inlV]) | fail "no return here"
  | true =>
    rw [h1] at hok
    cases ok with
    | false =>
      repeat (first | refine N.seq ?_ | refine N.blk ?_ | refine W.seq rfl ?_ | refine W.block rfl ?_ | refine W.skip rfl ?_ | refine W.ret rfl ?_ | refine N.nil ?_ | refine N.loop ?_ | refine W.exit rfl ?_ | refine X.seq ?_ | refine X.loop ?_ | refine X.hit ?_ | refine X.pass (by decide) ?_ | refine W.condT rfl (by rfl) ?_ | refine W.condF rfl (by rfl) ?_ | refine W.region tm dr_specs_ok rfl (by conv => lhs; simp [vA, Tm.cells, Ld.cells, hpk, hok]) fun _ => ?_ | refine W.regionD tm dr_specs_ok rfl (by conv => lhs; simp [vA, Tm.cells, Ld.cells, hpk, hok]) (by conv => lhs; simp) (by kernel_rfl) fun _ => ?_)
      simp only [Bool.true_and, Bool.false_and, Bool.false_eq_true, if_false, pnV, if_true]
      first | exact Ret.dataR rfl (by conv => lhs; simp) (by conv => lhs; simp) (by first | rfl | simp [inlT, inlV]) | fail "no return here"
    | true =>
      by_cases h2 : IntKind.i64.wrap (a.avg - b.avg) < t.high
      · repeat (first | refine N.seq ?_ | refine N.blk ?_ | refine W.seq rfl ?_ | refine W.block rfl ?_ | refine W.skip rfl ?_ | refine W.ret rfl ?_ | refine N.nil ?_ | refine N.loop ?_ | refine W.exit rfl ?_ | refine X.seq ?_ | refine X.loop ?_ | refine X.hit ?_ | refine X.pass (by decide) ?_ | refine W.condT rfl (by rfl) ?_ | refine W.condF rfl (by rfl) ?_ | refine W.region tm dr_specs_ok rfl (by conv => lhs; simp [vA, Tm.cells, Ld.cells, hpk, hok, h2]) fun _ => ?_ | refine W.regionD tm dr_specs_ok rfl (by conv => lhs; simp [vA, Tm.cells, Ld.cells, hpk, hok, h2]) (by conv => lhs; simp) (by kernel_rfl) fun _ => ?_)
        simp only [h2, decide_true, Bool.not_true, Bool.and_false, Bool.false_eq_true, if_false, pnV, if_true]
        first | exact Ret.dataR rfl (by conv => lhs; simp) (by conv => lhs; simp) (by first | rfl | simp [inlT, inlV]) | fail "no return here"
      · have hgo : (true && true && !decide (IntKind.i64.wrap (a.avg - b.avg) < t.high)) = true := by simp [h2]
        rw [if_pos hgo]
        repeat (first | refine N.seq ?_ | refine N.blk ?_ | refine W.seq rfl ?_ | refine W.block rfl ?_ | refine W.skip rfl ?_ | refine W.ret rfl ?_ | refine N.nil ?_ | refine N.loop ?_ | refine W.exit rfl ?_ | refine X.seq ?_ | refine X.loop ?_ | refine X.hit ?_ | refine X.pass (by decide) ?_ | refine W.condT rfl (by rfl) ?_ | refine W.condF rfl (by rfl) ?_ | refine W.region tm dr_specs_ok rfl (by conv => lhs; simp [vA, Tm.cells, Ld.cells, hpk, hok, h2]) fun _ => ?_ | refine W.regionD tm dr_specs_ok rfl (by conv => lhs; simp [vA, Tm.cells, Ld.cells, hpk, hok, h2]) (by conv => lhs; simp) (by kernel_rfl) fun _ => ?_)
        refine W.loop rfl (ι := { q : Nat × NL ABlk // q.1 ≤ gs.length ∧ first a b pl gs = first a b pl (gs.drop q.1) ∧ lk q.2 112 = some (vB view nodes (.list 2 (pl.map Pl.cells))) ∧ lk q.2 160 = some (cell a) ∧ lk q.2 176 = some (cell b) ∧ lk q.2 2000 = none })
          (fun q => ⟨85, [(1, .list 1 (gs.map gL)), (6, .ptr 112 1 0 0), (9, .ptr 160 1 0 0), (10, .ptr 176 1 0 0), (12, .int .i64 (q.1.1 : Nat))], q.1.2⟩) (fun q => gs.length - q.1.1)
          ⟨(0, _), by simp, rfl, by rfl, by rfl, by rfl, by rfl⟩ (AS.le_of rfl ⟨rfl, rfl, rfl, rfl, rfl, trivial⟩ (fun _ => rfl)) ?_
        rintro ⟨⟨k, h⟩, hk, hi, e1, e2, e3, e4⟩
        dsimp only at hk hi e1 e2 e3 e4 ⊢
        rw [hi]
        by_cases hk2 : k = gs.length
        · subst hk2
          rw [List.drop_length]
          repeat (first | refine N.seq ?_ | refine N.blk ?_ | refine W.seq rfl ?_ | refine W.block rfl ?_ | refine W.skip rfl ?_ | refine W.ret rfl ?_ | refine N.nil ?_ | refine N.loop ?_ | refine W.exit rfl ?_ | refine X.seq ?_ | refine X.loop ?_ | refine X.hit ?_ | refine X.pass (by decide) ?_ | refine W.condT rfl (by rfl) ?_ | refine W.condF rfl (by rfl) ?_ | refine W.region tm dr_specs_ok rfl (by conv => lhs; simp) fun _ => ?_ | refine W.regionD tm dr_specs_ok rfl (by conv => lhs; simp) (by conv => lhs; simp) (by kernel_rfl) fun _ => ?_)
          simp only [first, pnV, if_true]
          first | exact Ret.dataR rfl (by conv => lhs; simp) (by conv => lhs; simp) (by first | rfl | simp [inlT, inlV]) | fail "no return here"
        · have hlt : k < gs.length := by omega
          obtain ⟨g, hx⟩ := get_lt hlt
          have hgl := hg' g (List.mem_of_getElem? hx)
          have q1 : (k : Int) < gs.length := by omega
          have q2 : ¬ gs.length ≤ k := by omega
          have hw := w64_succ hlt (cap4 hg)
          have hC := hcu g a.node hgl
          have w2 : IntKind.i64.wrap (2 * (g.length : Int)) = 2 * (g.length : Int) := w64 (by omega) (by omega)
          rw [dropG hx]
          have hgood := atB_good a b pl g
          cases hat : atB pl g a.node with
          | false =>
            rw [hat, Bool.false_and] at hgood
            rw [hat] at hC
            have hfst : first a b pl (g :: gs.drop (k + 1)) = first a b pl (gs.drop (k + 1)) := by simp [first, hgood]
            rw [hfst]
            repeat (first | refine N.seq ?_ | refine N.blk ?_ | refine W.seq rfl ?_ | refine W.block rfl ?_ | refine W.skip rfl ?_ | refine W.ret rfl ?_ | refine N.nil ?_ | refine N.loop ?_ | refine W.exit rfl ?_ | refine X.seq ?_ | refine X.loop ?_ | refine X.hit ?_ | refine X.pass (by decide) ?_ | refine W.condT rfl (by rfl) ?_ | refine W.condF rfl (by rfl) ?_ | refine W.region tm dr_specs_ok rfl (by conv => lhs; simp [q1, q2, hx, hw, gL, hC, e1, e2, e3, vB, vA, cell, Ld.cells]) fun _ => ?_ | refine W.regionD tm dr_specs_ok rfl (by conv => lhs; simp [q1, q2, hx, hw, gL, hC, e1, e2, e3, vB, vA, cell, Ld.cells]) (by conv => lhs; simp) (by kernel_rfl) fun _ => ?_)
            exact ⟨⟨(k + 1, _), hlt, rfl, by simp [lk_st, e1, vB, vA], by simp [lk_st, e2, cell, Ld.cells], by simp [lk_st, e3, cell, Ld.cells], by simp [lk_st, e4]⟩, by dsimp only; omega, AS.le_of rfl ⟨rfl, rfl, rfl, rfl, rfl, trivial⟩ (fun _ => rfl)⟩
          | true =>
            rw [hat, Bool.true_and] at hgood
            rw [hat] at hC
            by_cases c3 : IntKind.i64.wrap (a.now - b.now) < 2 * (g.length : Int)
            · simp only [c3, decide_true, Bool.not_true] at hgood
              have hfst : first a b pl (g :: gs.drop (k + 1)) = first a b pl (gs.drop (k + 1)) := by simp [first, hgood]
              rw [hfst]
              repeat (first | refine N.seq ?_ | refine N.blk ?_ | refine W.seq rfl ?_ | refine W.block rfl ?_ | refine W.skip rfl ?_ | refine W.ret rfl ?_ | refine N.nil ?_ | refine N.loop ?_ | refine W.exit rfl ?_ | refine X.seq ?_ | refine X.loop ?_ | refine X.hit ?_ | refine X.pass (by decide) ?_ | refine W.condT rfl (by rfl) ?_ | refine W.condF rfl (by rfl) ?_ | refine W.region tm dr_specs_ok rfl (by conv => lhs; simp [q1, q2, hx, hw, gL, hC, c3, w2, e1, e2, e3, vB, vA, cell, Ld.cells]) fun _ => ?_ | refine W.regionD tm dr_specs_ok rfl (by conv => lhs; simp [q1, q2, hx, hw, gL, hC, c3, w2, e1, e2, e3, vB, vA, cell, Ld.cells]) (by conv => lhs; simp) (by kernel_rfl) fun _ => ?_)
              exact ⟨⟨(k + 1, _), hlt, rfl, by simp [lk_st, e1, vB, vA], by simp [lk_st, e2, cell, Ld.cells], by simp [lk_st, e3, cell, Ld.cells], by simp [lk_st, e4]⟩, by dsimp only; omega, AS.le_of rfl ⟨rfl, rfl, rfl, rfl, rfl, trivial⟩ (fun _ => rfl)⟩
            · simp only [c3, decide_false, Bool.not_false] at hgood
              have hfst : first a b pl (g :: gs.drop (k + 1)) = pland a b g := by simp [first, hgood]
              rw [hfst]
              have hne := first_good hgood
              simp only [pnV, if_neg hne]
              repeat (first | refine N.seq ?_ | refine N.blk ?_ | refine W.seq rfl ?_ | refine W.block rfl ?_ | refine W.skip rfl ?_ | refine W.ret rfl ?_ | refine N.nil ?_ | refine N.loop ?_ | refine W.exit rfl ?_ | refine X.seq ?_ | refine X.loop ?_ | refine X.hit ?_ | refine X.pass (by decide) ?_ | refine W.condT rfl (by rfl) ?_ | refine W.condF rfl (by rfl) ?_ | refine W.region tm dr_specs_ok rfl (by conv => lhs; simp [q1, q2, hx, hw, gL, hC, c3, w2, e1, e2, e3, vB, vA, cell, Ld.cells]) fun _ => ?_ | refine W.regionD tm dr_specs_ok rfl (by conv => lhs; simp [q1, q2, hx, hw, gL, hC, c3, w2, e1, e2, e3, vB, vA, cell, Ld.cells]) (by conv => lhs; simp) (by kernel_rfl) fun _ => ?_)
              refine W.phantom (t := 14) 2000 62 3 true rfl (by simp [lk_st, e4]) (by decide) ?_
              refine W.loop rfl (ι := { q : Nat × NL ABlk // q.1 ≤ g.length ∧ lk q.2 160 = some (cell a) ∧ lk q.2 176 = some (cell b) ∧ lk q.2 2000 = some (pnB q.1 (((pland a b g).map Pn.cells).take q.1)) })
                (fun q => ⟨85, [(9, .ptr 160 1 0 0), (10, .ptr 176 1 0 0), (13, .list 1 (g.map uc)), (14, .sl 2000 q.1.1 0 q.1.1), (15, .int .i64 (q.1.1 : Nat))], q.1.2⟩) (fun q => g.length - q.1.1)
                ⟨(0, _), by simp, by simp [lk, lk_st, e2, cell, Ld.cells], by simp [lk, lk_st, e3, cell, Ld.cells], by simp [lk, pnB]⟩ (AS.le_of rfl ⟨rfl, rfl, rfl, rfl, rfl, trivial⟩ (fun _ => rfl)) ?_
              clear e1 e2 e3 e4 hC h hi
              rintro ⟨⟨j, h⟩, hj, e1, e2, e3⟩
              dsimp only at hj e1 e2 e3 ⊢
              by_cases hj2 : j = g.length
              · subst hj2
                have hlen : ((pland a b g).map Pn.cells).length = g.length := by simp [pland]
                rw [List.take_of_length_le (by omega)] at e3
                generalize (pland a b g).map Pn.cells = A at hlen e3 ⊢
                have hle : g.length ≤ A.length := by omega
                have htk : List.take g.length A = A := List.take_of_length_le (by omega)
                repeat (first | refine N.seq ?_ | refine N.blk ?_ | refine W.seq rfl ?_ | refine W.block rfl ?_ | refine W.skip rfl ?_ | refine W.ret rfl ?_ | refine N.nil ?_ | refine N.loop ?_ | refine W.exit rfl ?_ | refine X.seq ?_ | refine X.loop ?_ | refine X.hit ?_ | refine X.pass (by decide) ?_ | refine W.condT rfl (by rfl) ?_ | refine W.condF rfl (by rfl) ?_ | refine W.region tm dr_specs_ok rfl (by conv => lhs; simp) fun _ => ?_ | refine W.regionD tm dr_specs_ok rfl (by conv => lhs; simp) (by conv => lhs; simp) (by kernel_rfl) fun _ => ?_)
                first | exact Ret.dataR rfl (by conv => lhs; simp [e3, pnB, hle, htk]) (by conv => lhs; simp [e3, pnB, hle, htk]) (by first | rfl | simp [inlT, inlV]) | fail "no return here"
              · have hjt : j < g.length := by omega
                obtain ⟨y, hy⟩ := get_lt hjt
                have r1 : (j : Int) < g.length := by omega
                have r2 : ¬ g.length ≤ j := by omega
                have hwj := w64_succ hjt (cap4 hgl)
                have hst : ((pland a b g).map Pn.cells).take (j + 1) = ((pland a b g).map Pn.cells).take j ++ [[.int .u64 y, .int .i64 a.node, .int .i64 b.node]] := by
                  rw [List.take_add_one]
                  simp [pland, hy, Pn.cells]
                have hkl : (((pland a b g).map Pn.cells).take j).length = j := by simp [pland]; omega
                generalize ((pland a b g).map Pn.cells).take j = A at hst hkl e3
                have hfr := firstRows_full hkl
                have z1 : (j + 1) * 24 ≤ 140737488355328 := by omega
                have z2 : j ≤ 9223372036854775806 := by omega
                repeat (first | refine N.seq ?_ | refine N.blk ?_ | refine W.seq rfl ?_ | refine W.block rfl ?_ | refine W.skip rfl ?_ | refine W.ret rfl ?_ | refine N.nil ?_ | refine N.loop ?_ | refine W.exit rfl ?_ | refine X.seq ?_ | refine X.loop ?_ | refine X.hit ?_ | refine X.pass (by decide) ?_ | refine W.condT rfl (by rfl) ?_ | refine W.condF rfl (by rfl) ?_ | refine W.region tm dr_specs_ok rfl (by conv => lhs; simp [r1, r2, hy, uc, e1, e2, e3, cell, Ld.cells, pnB, hkl, hfr, z1, z2, hwj, maxLen]) fun _ => ?_ | refine W.regionD tm dr_specs_ok rfl (by conv => lhs; simp [r1, r2, hy, uc, e1, e2, e3, cell, Ld.cells, pnB, hkl, hfr, z1, z2, hwj, maxLen]) (by conv => lhs; simp) (by kernel_rfl) fun _ => ?_)
                exact ⟨⟨(j + 1, _), hjt, by simp [lk_st, e1, cell, Ld.cells], by simp [lk_st, e2, cell, Ld.cells], by rw [hst]; simp [lk_st, pnB]⟩, by dsimp only; omega, AS.le_of rfl ⟨rfl, rfl, rfl, rfl, rfl, trivial⟩ (fun _ => rfl)⟩
/-! ### Carrying out -/
noncomputable def cr_specs : NL Spec := [(24, ⟨1, asgrS⟩)]
theorem cr_specs_ok : ∀ p ∈ cr_specs, FnC Try.prog p.1 p.2.fn := by
  simp only [cr_specs, List.mem_cons, List.not_mem_nil, or_false]
  rintro p rfl
  exact asgr_ok
attribute [local simp] runL stepA execA_eq skipA run_ret run_fail run_get run_put run_asm num lk st lk_st putA AS.ev ofValue ofFlat mkv splice fieldAddrA buildA fillA runF gdst pickA unOpA extractA resVs resV pack frzT inlT inlV frzV frzVs frzL frz1 newId AV.cellsOf AV.flat AV.flat2 specOf loadA_runR capA copyA copyTo srcA sliceCA slice3A appendZA extA AV.place lenCA clearA clearTo expG expB3 List.zipWith renL fF handB renB AV.ren backF backL idsOf freshIds refsL refsB AV.refs List.range List.range.loop placesA sliceRows rowsOf convertA sliceArrA sliceA bndA nilCheckA arrayAtA mmA lookupA keyOf keyOK findA keyEqA foundA makeMapA mapUpdateA appendA rowsA indexA partA fieldA retE2 frqT frqV frqVs frqL frq1 reachE blkRefs outE nodupE firstE seqO expB2 expF instA take_len_map List.findIdx?_cons List.findIdx?_nil cr_specs
theorem carr_ok : FnC Try.prog 17 carS := by
  refine FnC.walk 17 (fn := Try.f17) Try.func17 rfl (by kernel_rfl) fun x => ?_
  obtain ⟨⟨view, nodes, P, pl, hP, hn, hl⟩, ps, hps⟩ := x
  dsimp only at hps ⊢
  refine W.weak (σ' := ⟨25, [(0, .agg (vA view nodes (.list 2 (pl.map Pl.cells)))), (1, .list 3 (ps.map Pn.cells))], []⟩) (AS.le_of' rfl ⟨⟨_, rfl, vA_weak hP.weak⟩, ⟨_, rfl, pnV_weak ps⟩, trivial⟩ (fun _ => rfl)) ?_
  clear hP P
  repeat (first | refine N.seq ?_ | refine N.blk ?_ | refine W.seq rfl ?_ | refine W.block rfl ?_ | refine W.skip rfl ?_ | refine W.ret rfl ?_ | refine N.nil ?_ | refine N.loop ?_ | refine W.exit rfl ?_ | refine X.seq ?_ | refine X.loop ?_ | refine X.hit ?_ | refine X.pass (by decide) ?_ | refine W.condT rfl (by rfl) ?_ | refine W.condF rfl (by rfl) ?_ | refine W.region tm cr_specs_ok rfl (by conv => lhs; simp [vA]) fun _ => ?_ | refine W.regionD tm cr_specs_ok rfl (by conv => lhs; simp [vA]) (by conv => lhs; simp) (by kernel_rfl) fun _ => ?_)
  refine W.loop rfl (ι := { q : Nat × NL ABlk // q.1 ≤ ps.length ∧ lk q.2 48 = some (vB view nodes (plL (car pl (ps.take q.1)))) ∧ lk q.2 80 = some zB })
    (fun q => ⟨25, [(1, .list 3 (ps.map Pn.cells)), (2, .ptr 48 1 0 0), (4, .ptr 80 1 0 0), (5, .int .i64 (q.1.1 : Nat))], q.1.2⟩) (fun q => ps.length - q.1.1)
    ⟨(0, _), by simp, by rfl, by rfl⟩ (AS.le_of rfl ⟨rfl, rfl, rfl, rfl, trivial⟩ (fun _ => rfl)) ?_
  rintro ⟨⟨k, h⟩, hk, h1, h2⟩
  dsimp only at hk h1 h2 ⊢
  by_cases hk2 : k = ps.length
  · subst hk2
    rw [List.take_length] at h1
    repeat (first | refine N.seq ?_ | refine N.blk ?_ | refine W.seq rfl ?_ | refine W.block rfl ?_ | refine W.skip rfl ?_ | refine W.ret rfl ?_ | refine N.nil ?_ | refine N.loop ?_ | refine W.exit rfl ?_ | refine X.seq ?_ | refine X.loop ?_ | refine X.hit ?_ | refine X.pass (by decide) ?_ | refine W.condT rfl (by rfl) ?_ | refine W.condF rfl (by rfl) ?_ | refine W.region tm cr_specs_ok rfl (by conv => lhs; simp [h1, h2, vA, vB, zB, plL]) fun _ => ?_ | refine W.regionD tm cr_specs_ok rfl (by conv => lhs; simp [h1, h2, vA, vB, zB, plL]) (by conv => lhs; simp) (by kernel_rfl) fun _ => ?_)
    simp only [vA, plL]
    first | exact Ret.dataR rfl (by conv => lhs; simp) (by conv => lhs; simp) (by first | rfl | simp [inlT, inlV]) | fail "no return here"
  · have hlt : k < ps.length := by omega
    obtain ⟨x, hx⟩ := get_lt hlt
    have q1 : (k : Int) < ps.length := by omega
    have q2 : ¬ ps.length ≤ k := by omega
    have hw := w64_succ hlt (capX (by omega))
    have hst : car pl (ps.take (k + 1)) = asg (car pl (ps.take k)) x.p x.t := by
      rw [car, List.take_add_one, hx]
      simp [car]
    have hcl := car_len (ps.take k) pl
    have htl : (ps.take k).length ≤ k := by simp; omega
    generalize car pl (ps.take k) = T at hst hcl h1
    have hA := asgrS_eq view nodes (.list 2 (T.map Pl.cells)) T x.p x.t (isP_plL T) hn (by omega)
    repeat (first | refine N.seq ?_ | refine N.blk ?_ | refine W.seq rfl ?_ | refine W.block rfl ?_ | refine W.skip rfl ?_ | refine W.ret rfl ?_ | refine N.nil ?_ | refine N.loop ?_ | refine W.exit rfl ?_ | refine X.seq ?_ | refine X.loop ?_ | refine X.hit ?_ | refine X.pass (by decide) ?_ | refine W.condT rfl (by rfl) ?_ | refine W.condF rfl (by rfl) ?_ | refine W.region tm cr_specs_ok rfl (by conv => lhs; simp [h1, h2, vA, vB, zB, plL, q1, q2, hx, hw, Pn.cells, hA]) fun _ => ?_ | refine W.regionD tm cr_specs_ok rfl (by conv => lhs; simp [h1, h2, vA, vB, zB, plL, q1, q2, hx, hw, Pn.cells, hA]) (by conv => lhs; simp) (by kernel_rfl) fun _ => ?_)
    exact ⟨⟨(k + 1, _), hlt, by dsimp only; rw [hst]; simp [lk_st, vB, vA, plL], by simp [lk_st, h2, zB]⟩, by dsimp only; omega, AS.le_of rfl ⟨rfl, rfl, rfl, rfl, trivial⟩ (fun _ => rfl)⟩
/-! ### Settling -/
noncomputable def sr_specs : NL Spec := [(10, ⟨1, countrS⟩), (13, ⟨1, decS⟩), (17, ⟨1, carS⟩)]
theorem sr_specs_ok : ∀ p ∈ sr_specs, FnC Try.prog p.1 p.2.fn := by
  simp only [sr_specs, List.mem_cons, List.not_mem_nil, or_false]
  rintro p (rfl | rfl | rfl)
  · exact countr_ok
  · exact decr_ok
  · exact carr_ok
attribute [local simp] runL stepA execA_eq skipA run_ret run_fail run_get run_put run_asm num lk st lk_st putA AS.ev ofValue ofFlat mkv splice fieldAddrA buildA fillA runF gdst pickA unOpA extractA resVs resV pack frzT inlT inlV frzV frzVs frzL frz1 newId AV.cellsOf AV.flat AV.flat2 specOf loadA_runR capA copyA copyTo srcA sliceCA slice3A appendZA extA AV.place lenCA clearA clearTo expG expB3 List.zipWith renL fF handB renB AV.ren backF backL idsOf freshIds refsL refsB AV.refs List.range List.range.loop placesA sliceRows rowsOf convertA sliceArrA sliceA bndA nilCheckA arrayAtA mmA lookupA keyOf keyOK findA keyEqA foundA makeMapA mapUpdateA appendA rowsA indexA partA fieldA retE2 frqT frqV frqVs frqL frq1 reachE blkRefs outE nodupE firstE seqO expB2 expF instA take_len_map List.findIdx?_cons List.findIdx?_nil sr_specs
theorem setr_ok : FnC Try.prog 19 setS := by
  refine FnC.walk 19 (fn := Try.f19) Try.func19 rfl (by kernel_rfl) fun x => ?_
  obtain ⟨⟨view, nodes, P, pl, hP, hn, hp⟩, ⟨gs, hg, hg'⟩, t, r, hr⟩ := x
  dsimp only at hr ⊢
  refine W.weak (σ' := ⟨26, [(0, .agg (vA view nodes (.list 2 (pl.map Pl.cells)))), (1, .list 1 (gs.map gL)), (2, .agg t.cells)], []⟩) (AS.le_of' rfl ⟨⟨_, rfl, vA_weak hP.weak⟩, ⟨_, rfl, AV.weaker_refl _⟩, ⟨_, rfl, AV.weaker_refl _⟩, trivial⟩ (fun _ => rfl)) ?_
  clear hP P
  repeat (first | refine N.seq ?_ | refine N.blk ?_ | refine W.seq rfl ?_ | refine W.block rfl ?_ | refine W.skip rfl ?_ | refine W.ret rfl ?_ | refine N.nil ?_ | refine N.loop ?_ | refine W.exit rfl ?_ | refine X.seq ?_ | refine X.loop ?_ | refine X.hit ?_ | refine X.pass (by decide) ?_ | refine W.condT rfl (by rfl) ?_ | refine W.condF rfl (by rfl) ?_ | refine W.region tm sr_specs_ok rfl (by conv => lhs; simp [vA, Tm.cells]) fun _ => ?_ | refine W.regionD tm sr_specs_ok rfl (by conv => lhs; simp [vA, Tm.cells]) (by conv => lhs; simp) (by kernel_rfl) fun _ => ?_)
  refine W.loop rfl (ι := { q : Nat × List Pl × Nat × NL ABlk // q.2.1.length ≤ 200 ∧ q.1 + q.2.2.1 ≤ 1000 ∧ setl nodes gs t q.1 q.2.1 q.2.2.1 = some r ∧ lk q.2.2.2 64 = some (vB view nodes (plL q.2.1)) ∧ lk q.2.2.2 96 = some (tmB t) ∧ lk q.2.2.2 112 = some zB })
    (fun q => ⟨26, [(1, .list 1 (gs.map gL)), (3, .ptr 64 1 0 0), (5, .ptr 96 1 0 0), (6, .ptr 112 1 0 0), (8, .int .i64 (q.1.2.2.1 : Nat))], q.1.2.2.2⟩) (fun q => q.1.1)
    ⟨(1000, pl, 0, _), hp, by simp, hr, by rfl, by rfl, by rfl⟩ (AS.le_of rfl ⟨rfl, rfl, rfl, rfl, rfl, trivial⟩ (fun _ => rfl)) ?_
  clear hr hp pl
  rintro ⟨⟨f, pl, n, h⟩, hp, hfn, hr, h1, h2, h3⟩
  dsimp only at hp hfn hr h1 h2 h3 ⊢
  match f, hfn, hr with
  | 0, hfn, hr => simp [setl] at hr
  | f + 1, hfn, hr =>
    have hC := countrS_eq view nodes (.list 2 (pl.map Pl.cells)) pl (isP_plL pl) hn hp
    have hll : (lds nodes pl).length ≤ 200 := by simp [lds]; omega
    have hD := decS_eq (lds nodes pl) hll gs hg hg' view nodes (.list 2 (pl.map Pl.cells)) pl (isP_plL pl) hn hp t
    simp only [setl] at hr
    by_cases he : dec (lds nodes pl) gs pl t = []
    · rw [if_pos he] at hr
      cases hr
      rw [he] at hD
      simp only [pnV, if_true] at hD
      repeat (first | refine N.seq ?_ | refine N.blk ?_ | refine W.seq rfl ?_ | refine W.block rfl ?_ | refine W.skip rfl ?_ | refine W.ret rfl ?_ | refine N.nil ?_ | refine N.loop ?_ | refine W.exit rfl ?_ | refine X.seq ?_ | refine X.loop ?_ | refine X.hit ?_ | refine X.pass (by decide) ?_ | refine W.condT rfl (by rfl) ?_ | refine W.condF rfl (by rfl) ?_ | refine W.region tm sr_specs_ok rfl (by conv => lhs; simp [h1, h2, h3, vA, vB, zB, plL, tmB, Tm.cells, hC, hD]) fun _ => ?_ | refine W.regionD tm sr_specs_ok rfl (by conv => lhs; simp [h1, h2, h3, vA, vB, zB, plL, tmB, Tm.cells, hC, hD]) (by conv => lhs; simp) (by kernel_rfl) fun _ => ?_)
      simp only [vA, plL]
      first | exact Ret.dataR rfl (by conv => lhs; simp) (by conv => lhs; simp) (by first | rfl | simp [inlT, inlV]) | fail "no return here"
    · rw [if_neg he] at hr
      split at hr
      · cases hr
      · rename_i h190
        have hK := carS_eq view nodes (.list 2 (pl.map Pl.cells)) pl (dec (lds nodes pl) gs pl t) (isP_plL pl) hn (by omega)
        have hcl := car_len (dec (lds nodes pl) gs pl t) pl
        generalize dec (lds nodes pl) gs pl t = ps at he hr hD hK hcl h190
        simp only [pnV, if_neg he] at hD hK
        have hpl0 : ((ps.length : Int) == 0) = false := beq_eq_false_iff_ne.2 (by
          have : ps.length ≠ 0 := fun h => he (List.eq_nil_of_length_eq_zero h)
          omega)
        have hwn : IntKind.i64.wrap ((n : Int) + 1) = ((n + 1 : Nat) : Int) := w64 (by omega) (by omega)
        repeat (first | refine N.seq ?_ | refine N.blk ?_ | refine W.seq rfl ?_ | refine W.block rfl ?_ | refine W.skip rfl ?_ | refine W.ret rfl ?_ | refine N.nil ?_ | refine N.loop ?_ | refine W.exit rfl ?_ | refine X.seq ?_ | refine X.loop ?_ | refine X.hit ?_ | refine X.pass (by decide) ?_ | refine W.condT rfl (by rfl) ?_ | refine W.condF rfl (by rfl) ?_ | refine W.region tm sr_specs_ok rfl (by conv => lhs; simp [h1, h2, h3, vA, vB, zB, plL, tmB, Tm.cells, hC, hD, hK, hpl0, he, hwn]) fun _ => ?_ | refine W.regionD tm sr_specs_ok rfl (by conv => lhs; simp [h1, h2, h3, vA, vB, zB, plL, tmB, Tm.cells, hC, hD, hK, hpl0, he, hwn]) (by conv => lhs; simp) (by kernel_rfl) fun _ => ?_)
        exact ⟨⟨(f, car pl ps, n + 1, _), by dsimp only; omega, by dsimp only; omega, hr, by simp [lk_st, vB, vA, plL], by simp [lk_st, h2, tmB, Tm.cells], by simp [lk_st, h3, zB]⟩, by dsimp only; omega, AS.le_of rfl ⟨rfl, rfl, rfl, rfl, rfl, trivial⟩ (fun _ => rfl)⟩
end Go.Abs.Po
namespace Go.Abs.Po
open Go Go.Proofs Go.Abs
set_option maxRecDepth 100000
set_option maxHeartbeats 4000000
set_option linter.unusedSimpArgs false
set_option linter.unusedVariables false
attribute [local simp] runL stepA execA_eq skipA run_ret run_fail run_get run_put run_asm num lk st lk_st putA AS.ev ofValue ofFlat mkv splice fieldAddrA buildA fillA runF gdst pickA unOpA extractA resVs resV pack frzT inlT inlV frzV frzVs frzL frz1 newId AV.cellsOf AV.flat AV.flat2 specOf loadA_runR capA copyA copyTo srcA sliceCA slice3A appendZA extA AV.place lenCA clearA clearTo expG expB3 List.zipWith renL fF handB renB AV.ren backF backL idsOf freshIds refsL refsB AV.refs List.range List.range.loop placesA sliceRows rowsOf convertA sliceArrA sliceA bndA nilCheckA arrayAtA mmA lookupA keyOf keyOK findA keyEqA foundA makeMapA mapUpdateA appendA rowsA indexA partA fieldA retE2 frqT frqV frqVs frqL frq1 reachE blkRefs outE nodupE firstE seqO expB2 expF instA take_len_map List.findIdx?_cons List.findIdx?_nil
def avgOf : List Ld → Int → Int
  | [], _ => 0
  | x :: r, n => if x.node = n then x.avg else avgOf r n
def LdI := { l : List Ld // l.length ≤ 200 }
def encAv (x : LdI × Int) : List AV := [.list 3 (x.1.1.map Ld.cells), .int .i64 x.2]
theorem encAv_inj {β : Type} {f : LdI × Int → β} : ∀ x y, encAv x = encAv y → f x = f y := fun x y h => by
  simp only [encAv, List.cons.injEq, AV.list.injEq, AV.int.injEq, true_and, and_true] at h
  rw [Prod.ext (Subtype.ext (map_inj Ld.inj h.1)) h.2]
noncomputable def avS : SpecFn := mkS encAv fun x => (.int .i64 (avgOf x.1.1 x.2), [])
theorem avS_eq (l : List Ld) (n : Int) (h : l.length ≤ 200) : avS [.list 3 (l.map Ld.cells), .int .i64 n] [] = some (.int .i64 (avgOf l n), []) := mkS_eq (enc := encAv) encAv_inj (⟨l, h⟩, n)
theorem av_ok : FnC Try.prog 31 avS := by
  refine FnC.walk 31 (fn := Try.f31) Try.func31 rfl (by kernel_rfl) fun x => ?_
  obtain ⟨⟨l, hl⟩, n⟩ := x
  change W _ (Ret _ _ (.int .i64 (avgOf l n)) []) _ _ ⟨24, [(0, .list 3 (l.map Ld.cells)), (1, .int .i64 n)], []⟩
  repeat (first | refine N.seq ?_ | refine N.blk ?_ | refine W.seq rfl ?_ | refine W.block rfl ?_ | refine W.skip rfl ?_ | refine W.ret rfl ?_ | refine N.nil ?_ | refine N.loop ?_ | refine W.exit rfl ?_ | refine X.seq ?_ | refine X.loop ?_ | refine X.hit ?_ | refine X.pass (by decide) ?_ | refine W.condT rfl (by rfl) ?_ | refine W.condF rfl (by rfl) ?_ | refine W.region tm no_specs rfl (by conv => lhs; simp) fun _ => ?_ | refine W.regionD tm no_specs rfl (by conv => lhs; simp) (by conv => lhs; simp) (by kernel_rfl) fun _ => ?_)
  refine W.loop rfl (ι := { q : Nat × NL ABlk // q.1 ≤ l.length ∧ avgOf l n = avgOf (l.drop q.1) n }) (fun q => ⟨24, [(0, .list 3 (l.map Ld.cells)), (1, .int .i64 n), (5, .int .i64 (q.1.1 : Nat))], q.1.2⟩) (fun q => l.length - q.1.1)
    ⟨(0, _), by simp, rfl⟩ (AS.le_of rfl ⟨rfl, rfl, rfl, trivial⟩ (fun _ => rfl)) ?_
  rintro ⟨⟨k, h⟩, hk, hi⟩
  dsimp only at hk hi ⊢
  rw [hi]
  by_cases hk2 : k = l.length
  · subst hk2
    rw [List.drop_length]
    repeat (first | refine N.seq ?_ | refine N.blk ?_ | refine W.seq rfl ?_ | refine W.block rfl ?_ | refine W.skip rfl ?_ | refine W.ret rfl ?_ | refine N.nil ?_ | refine N.loop ?_ | refine W.exit rfl ?_ | refine X.seq ?_ | refine X.loop ?_ | refine X.hit ?_ | refine X.pass (by decide) ?_ | refine W.condT rfl (by rfl) ?_ | refine W.condF rfl (by rfl) ?_ | refine W.region tm no_specs rfl (by conv => lhs; simp) fun _ => ?_ | refine W.regionD tm no_specs rfl (by conv => lhs; simp) (by conv => lhs; simp) (by kernel_rfl) fun _ => ?_)
    simp only [avgOf]
    first | exact Ret.dataR rfl (by conv => lhs; simp) (by conv => lhs; simp) (by first | rfl | simp [inlT, inlV]) | fail "no return here"
  · have hlt : k < l.length := by omega
    obtain ⟨x, hx⟩ := get_lt hlt
    have q1 : (k : Int) < l.length := by omega
    have q2 : ¬ l.length ≤ k := by omega
    have hw := w64_succ hlt (capX hl)
    rw [dropG hx]
    by_cases e : x.node = n
    · have e' : (x.node == n) = true := by simpa using e
      rw [avgOf, if_pos e]
      repeat (first | refine N.seq ?_ | refine N.blk ?_ | refine W.seq rfl ?_ | refine W.block rfl ?_ | refine W.skip rfl ?_ | refine W.ret rfl ?_ | refine N.nil ?_ | refine N.loop ?_ | refine W.exit rfl ?_ | refine X.seq ?_ | refine X.loop ?_ | refine X.hit ?_ | refine X.pass (by decide) ?_ | refine W.condT rfl (by rfl) ?_ | refine W.condF rfl (by rfl) ?_ | refine W.region tm no_specs rfl (by conv => lhs; simp [q1, q2, hx, Ld.cells, e']) fun _ => ?_ | refine W.regionD tm no_specs rfl (by conv => lhs; simp [q1, q2, hx, Ld.cells, e']) (by conv => lhs; simp) (by kernel_rfl) fun _ => ?_)
      first | exact Ret.dataR rfl (by conv => lhs; simp) (by conv => lhs; simp) (by first | rfl | simp [inlT, inlV]) | fail "no return here"
    · have e' : (x.node == n) = false := by simpa using e
      rw [avgOf, if_neg e]
      repeat (first | refine N.seq ?_ | refine N.blk ?_ | refine W.seq rfl ?_ | refine W.block rfl ?_ | refine W.skip rfl ?_ | refine W.ret rfl ?_ | refine N.nil ?_ | refine N.loop ?_ | refine W.exit rfl ?_ | refine X.seq ?_ | refine X.loop ?_ | refine X.hit ?_ | refine X.pass (by decide) ?_ | refine W.condT rfl (by rfl) ?_ | refine W.condF rfl (by rfl) ?_ | refine W.region tm no_specs rfl (by conv => lhs; simp [q1, q2, hx, hw, Ld.cells, e']) fun _ => ?_ | refine W.regionD tm no_specs rfl (by conv => lhs; simp [q1, q2, hx, hw, Ld.cells, e']) (by conv => lhs; simp) (by kernel_rfl) fun _ => ?_)
      exact ⟨⟨(k + 1, _), hlt, rfl⟩, by dsimp only; omega, AS.le_of rfl ⟨rfl, rfl, rfl, trivial⟩ (fun _ => rfl)⟩
/-! ### Counting, into memory of its own -/
noncomputable def ct_specs : NL Spec := [(30, ⟨1, nowS⟩)]
theorem ct_specs_ok : ∀ p ∈ ct_specs, FnC Try.prog p.1 p.2.fn := by
  simp only [ct_specs, List.mem_cons, List.not_mem_nil, or_false]
  rintro p rfl
  exact now_ok
attribute [local simp] ct_specs
def encVB (x : Vt) : List AV × List ABlk := ([x.av], [])
theorem encVB_inj {β : Type} {f : Vt → β} : ∀ x y, encVB x = encVB y → f x = f y := fun x y h => by
  simp only [encVB, Prod.mk.injEq, List.cons.injEq, and_true] at h
  rw [Vt.inj _ _ h]
noncomputable def ctS : SpecFn := mkS2 encVB fun x => (.sl 0 0 0 x.nodes.length, [lB 0 ((lds x.nodes x.pl).map Ld.cells)])
theorem ctS_eq (view : Int) (nodes : List Int) (P : AV) (pl : List Pl) (hP : IsP P pl) (hn : nodes.length ≤ 8) (hl : pl.length ≤ 200) :
    ctS [.agg [.int .i64 view, .list 1 (nodes.map ic), .nils, P, .nils, .nils]] [] = some (.sl 0 0 0 nodes.length, [lB 0 ((lds nodes pl).map Ld.cells)]) :=
  mkS2_eq (enc := encVB) encVB_inj (⟨view, nodes, P, pl, hP, hn, hl⟩)
theorem ct_ok : FnC Try.prog 10 ctS := by
  refine FnC.walkB 10 (fn := Try.f10) Try.func10 rfl (by kernel_rfl) (fun x b hb => by simp [encVB] at hb) fun x => ?_
  obtain ⟨view, nodes, P, pl, hP, hn, hl⟩ := x
  dsimp only
  refine W.weak (σ' := ⟨33, [(0, .agg (vA view nodes (.list 2 (pl.map Pl.cells))))], []⟩) (le_head (vA_weak hP.weak)) ?_
  change W _ (RetB _ _ 0 (.sl 0 0 0 nodes.length) [lB 0 ((lds nodes pl).map Ld.cells)]) _ _ _
  clear hP P
  repeat (first | refine N.seq ?_ | refine N.blk ?_ | refine W.seq rfl ?_ | refine W.block rfl ?_ | refine W.skip rfl ?_ | refine W.ret rfl ?_ | refine N.nil ?_ | refine N.loop ?_ | refine W.exit rfl ?_ | refine X.seq ?_ | refine X.loop ?_ | refine X.hit ?_ | refine X.pass (by decide) ?_ | refine W.condT rfl (by rfl) ?_ | refine W.condF rfl (by rfl) ?_ | refine W.region tm ct_specs_ok rfl (by conv => lhs; simp [vA]) fun _ => ?_ | refine W.regionD tm ct_specs_ok rfl (by conv => lhs; simp [vA]) (by conv => lhs; simp) (by kernel_rfl) fun _ => ?_)
  refine W.phantom (t := 3) 2000 29 3 true rfl (by rfl) (by decide) ?_
  refine W.loop rfl (ι := { q : Nat × NL ABlk // q.1 ≤ nodes.length ∧ lk q.2 32 = some (vB view nodes (.list 2 (pl.map Pl.cells))) ∧ lk q.2 2000 = some (lB q.1 (((lds nodes pl).map Ld.cells).take q.1)) })
    (fun q => ⟨33, [(1, .ptr 32 1 0 0), (3, .sl 2000 q.1.1 0 q.1.1), (4, .int .i64 (q.1.1 : Nat))], q.1.2⟩) (fun q => nodes.length - q.1.1)
    ⟨(0, _), by simp, by rfl, by rfl⟩ (AS.le_of rfl ⟨rfl, rfl, rfl, trivial⟩ (fun _ => rfl)) ?_
  rintro ⟨⟨k, h⟩, hk, h1, h2⟩
  dsimp only at hk h1 h2 ⊢
  by_cases hk2 : k = nodes.length
  · subst hk2
    have hlen : ((lds nodes pl).map Ld.cells).length = nodes.length := by simp [lds]
    rw [List.take_of_length_le (by omega)] at h2
    have hrl : List.map (fun r => renL (expF [2000] h) r) ((lds nodes pl).map Ld.cells) = (lds nodes pl).map Ld.cells := by
      rw [List.map_map]
      apply List.map_congr_left
      intro x _
      simp [Ld.cells, renL, AV.ren]
    repeat (first | refine N.seq ?_ | refine N.blk ?_ | refine W.seq rfl ?_ | refine W.block rfl ?_ | refine W.skip rfl ?_ | refine W.ret rfl ?_ | refine N.nil ?_ | refine N.loop ?_ | refine W.exit rfl ?_ | refine X.seq ?_ | refine X.loop ?_ | refine X.hit ?_ | refine X.pass (by decide) ?_ | refine W.condT rfl (by rfl) ?_ | refine W.condF rfl (by rfl) ?_ | refine W.region tm ct_specs_ok rfl (by conv => lhs; simp [h1, h2, vA, vB, lB]) fun _ => ?_ | refine W.regionD tm ct_specs_ok rfl (by conv => lhs; simp [h1, h2, vA, vB, lB]) (by conv => lhs; simp) (by kernel_rfl) fun _ => ?_)
    simp only [lB]
    first | exact retE2_ok false (by conv => lhs; simp [retE2, frqT, frqV, frqVs, frqL, frq1, reachE, blkRefs, outE, nodupE, firstE, seqO, expB2, expF, refsB, refsL, AV.refs, AV.ren, renL, renB, List.range, List.range.loop, resVs, resV, pack, h2, lB, hrl]) | fail "no return here"
  · have hlt : k < nodes.length := by omega
    obtain ⟨x, hx⟩ := get_lt hlt
    have q1 : (k : Int) < nodes.length := by omega
    have q2 : ¬ nodes.length ≤ k := by omega
    have hw : IntKind.i64.wrap ((k : Int) + 1) = ((k + 1 : Nat) : Int) := w64 (by omega) (by omega)
    have hN := nowS_eq view nodes (.list 2 (pl.map Pl.cells)) pl x (isP_plL pl) hn hl
    have hcl := cnt_le pl x
    have hst : ((lds nodes pl).map Ld.cells).take (k + 1) = ((lds nodes pl).map Ld.cells).take k ++ [(ldOf pl x).cells] := by
      rw [List.take_add_one]
      simp [lds, hx]
    have hkl : (((lds nodes pl).map Ld.cells).take k).length = k := by simp [lds]; omega
    have hw2 : IntKind.i64.wrap (256 * (cnt pl x : Int)) = 256 * (cnt pl x : Int) := w64 (by omega) (by omega)
    generalize hA : ((lds nodes pl).map Ld.cells).take k = A at hst hkl h2
    have hfr := firstRows_full hkl
    have c1 : (k + 1) * 24 ≤ 140737488355328 := by omega
    have c2 : k ≤ 9223372036854775806 := by omega
    repeat (first | refine N.seq ?_ | refine N.blk ?_ | refine W.seq rfl ?_ | refine W.block rfl ?_ | refine W.skip rfl ?_ | refine W.ret rfl ?_ | refine N.nil ?_ | refine N.loop ?_ | refine W.exit rfl ?_ | refine X.seq ?_ | refine X.loop ?_ | refine X.hit ?_ | refine X.pass (by decide) ?_ | refine W.condT rfl (by rfl) ?_ | refine W.condF rfl (by rfl) ?_ | refine W.region tm ct_specs_ok rfl (by conv => lhs; simp [h1, h2, vA, vB, lB, q1, q2, hx, hN, hw, hw2, hfr, hkl, c1, c2, maxLen, ic]) fun _ => ?_ | refine W.regionD tm ct_specs_ok rfl (by conv => lhs; simp [h1, h2, vA, vB, lB, q1, q2, hx, hN, hw, hw2, hfr, hkl, c1, c2, maxLen, ic]) (by conv => lhs; simp) (by kernel_rfl) fun _ => ?_)
    exact ⟨⟨(k + 1, _), hlt, by simp [lk_st, h1, vA, vB], by rw [hst]; simp [lk_st, lB, ldOf, Ld.cells]⟩, by dsimp only; omega, AS.le_of rfl ⟨rfl, rfl, rfl, trivial⟩ (fun _ => rfl)⟩
/-! ### Averages that follow -/
def upd1 (old : List Ld) (x : Ld) : Ld := ⟨x.node, x.now, IntKind.i64.wrap (avgOf old x.node + IntKind.i64.wrap ((IntKind.i64.wrap (IntKind.i64.wrap (256 * x.now) - avgOf old x.node)).tdiv 4))⟩
def updL (old l : List Ld) : List Ld := l.map (upd1 old)
structure Ux where
  l : LdI
  v : Vt
def encUx (x : Ux) : List AV := [.list 3 (x.l.1.map Ld.cells), x.v.av]
theorem encUx_inj {β : Type} {f : Ux → β} : ∀ x y, encUx x = encUx y → f x = f y := fun x y h => by
  obtain ⟨l, v⟩ := x
  obtain ⟨l', v'⟩ := y
  simp only [encUx, List.cons.injEq, AV.list.injEq, true_and, and_true] at h
  have := Subtype.ext (map_inj Ld.inj h.1); subst this
  have := Vt.inj _ _ h.2; subst this
  rfl
noncomputable def upS : SpecFn := mkS encUx fun x => (.list 3 ((updL x.l.1 (lds x.v.nodes x.v.pl)).map Ld.cells), [])
theorem upS_eq (l : List Ld) (h : l.length ≤ 200) (view : Int) (nodes : List Int) (P : AV) (pl : List Pl) (hP : IsP P pl) (hn : nodes.length ≤ 8) (hl : pl.length ≤ 200) :
    upS [.list 3 (l.map Ld.cells), .agg [.int .i64 view, .list 1 (nodes.map ic), .nils, P, .nils, .nils]] [] = some (.list 3 ((updL l (lds nodes pl)).map Ld.cells), []) :=
  mkS_eq (enc := encUx) encUx_inj ⟨⟨l, h⟩, ⟨view, nodes, P, pl, hP, hn, hl⟩⟩
def mix {α : Type} (U R : List α) (k : Nat) : List α := U.take k ++ R.drop k
theorem mix_get {α : Type} {U R : List α} {k : Nat} {x : α} (hu : k ≤ U.length) (h : R[k]? = some x) : (mix U R k)[k]? = some x := by
  unfold mix
  rw [List.getElem?_append_right (by simp; omega), List.getElem?_drop, List.length_take, ← h]
  congr 1
  omega
theorem mix_set {α : Type} {U R : List α} {k : Nat} {x : α} (h : U[k]? = some x) (hl : U.length = R.length) : (mix U R k).set k x = mix U R (k + 1) := by
  unfold mix
  have hk := (List.getElem?_eq_some_iff.1 h).1
  have hkl : (U.take k).length = k := by simp; omega
  have hd : R.drop k = R[k] :: R.drop (k + 1) := List.drop_eq_getElem_cons (by omega)
  rw [List.set_append_right _ _ (by omega), hkl, Nat.sub_self, hd, List.set_cons_zero, List.take_add_one, h]
  simp
theorem mix_len {α : Type} {U R : List α} {k : Nat} (hl : U.length = R.length) (hk : k ≤ U.length) : (mix U R k).length = U.length := by
  unfold mix
  simp; omega
noncomputable def up_specs : NL Spec := [(10, ⟨3, ctS⟩), (31, ⟨0, avS⟩)]
theorem up_specs_ok : ∀ p ∈ up_specs, FnC Try.prog p.1 p.2.fn := by
  simp only [up_specs, List.mem_cons, List.not_mem_nil, or_false]
  rintro p (rfl | rfl)
  · exact ct_ok
  · exact av_ok
attribute [local simp] up_specs
theorem up_ok : FnC Try.prog 11 upS := by
  refine FnC.walk 11 (fn := Try.f11) Try.func11 rfl (by kernel_rfl) fun x => ?_
  obtain ⟨⟨l, hl⟩, ⟨view, nodes, P, pl, hP, hn, hp⟩⟩ := x
  dsimp only
  refine W.weak (σ' := ⟨39, [(0, .list 3 (l.map Ld.cells)), (1, .agg (vA view nodes (.list 2 (pl.map Pl.cells))))], []⟩) (AS.le_of' rfl ⟨⟨_, rfl, AV.weaker_refl _⟩, ⟨_, rfl, vA_weak hP.weak⟩, trivial⟩ (fun _ => rfl)) ?_
  clear hP P
  have hC := ctS_eq view nodes (.list 2 (pl.map Pl.cells)) pl (isP_plL pl) hn hp
  have hav := fun n => avS_eq l n hl
  simp only [lB] at hC
  repeat (first | refine N.seq ?_ | refine N.blk ?_ | refine W.seq rfl ?_ | refine W.block rfl ?_ | refine W.skip rfl ?_ | refine W.ret rfl ?_ | refine N.nil ?_ | refine N.loop ?_ | refine W.exit rfl ?_ | refine X.seq ?_ | refine X.loop ?_ | refine X.hit ?_ | refine X.pass (by decide) ?_ | refine W.condT rfl (by rfl) ?_ | refine W.condF rfl (by rfl) ?_ | refine W.region tm up_specs_ok rfl (by conv => lhs; simp [vA, hC]) fun _ => ?_ | refine W.regionD tm up_specs_ok rfl (by conv => lhs; simp [vA, hC]) (by conv => lhs; simp) (by kernel_rfl) fun _ => ?_)
  have hLl : (lds nodes pl).length = nodes.length := by simp [lds]
  have hUl : (updL l (lds nodes pl)).length = (lds nodes pl).length := by simp [updL]
  have hUg : ∀ (k : Nat) x, (lds nodes pl)[k]? = some x → (updL l (lds nodes pl))[k]? = some (upd1 l x) := fun k x h => by rw [updL, List.getElem?_map, h]; rfl
  have hget : ∀ (k : Nat) x, nodes[k]? = some x → (lds nodes pl)[k]? = some (ldOf pl x) := fun k x h => by rw [lds, List.getElem?_map, h]; rfl
  have hm0 : mix (updL l (lds nodes pl)) (lds nodes pl) 0 = lds nodes pl := by simp [mix]
  have hm1 : mix (updL l (lds nodes pl)) (lds nodes pl) nodes.length = updL l (lds nodes pl) := by
    rw [mix, List.take_of_length_le (by omega), List.drop_eq_nil_of_le (by omega), List.append_nil]
  generalize hU : updL l (lds nodes pl) = U at *
  generalize hR : lds nodes pl = R at *
  refine W.loop rfl (ι := { q : Nat × NL ABlk // q.1 ≤ nodes.length ∧ lk q.2 160 = some (lB 1 ((mix U R q.1).map Ld.cells)) })
    (fun q => ⟨39, [(0, .list 3 (l.map Ld.cells)), (5, .sl 160 1 0 nodes.length), (6, .int .i64 (q.1.1 : Nat))], q.1.2⟩) (fun q => nodes.length - q.1.1)
    ⟨(0, _), by simp, by rw [hm0]; rfl⟩ (AS.le_of rfl ⟨rfl, rfl, rfl, trivial⟩ (fun _ => rfl)) ?_
  rintro ⟨⟨k, h⟩, hk, h1⟩
  dsimp only at hk h1 ⊢
  by_cases hk2 : k = nodes.length
  · subst hk2
    rw [hm1] at h1
    have hle : nodes.length ≤ (U.map Ld.cells).length := by simp; omega
    have hle2 : nodes.length ≤ U.length := by omega
    have htk : List.take nodes.length (U.map Ld.cells) = U.map Ld.cells := List.take_of_length_le (by simp; omega)
    repeat (first | refine N.seq ?_ | refine N.blk ?_ | refine W.seq rfl ?_ | refine W.block rfl ?_ | refine W.skip rfl ?_ | refine W.ret rfl ?_ | refine N.nil ?_ | refine N.loop ?_ | refine W.exit rfl ?_ | refine X.seq ?_ | refine X.loop ?_ | refine X.hit ?_ | refine X.pass (by decide) ?_ | refine W.condT rfl (by rfl) ?_ | refine W.condF rfl (by rfl) ?_ | refine W.region tm up_specs_ok rfl (by conv => lhs; simp [h1, lB]) fun _ => ?_ | refine W.regionD tm up_specs_ok rfl (by conv => lhs; simp [h1, lB]) (by conv => lhs; simp) (by kernel_rfl) fun _ => ?_)
    first | exact Ret.dataR rfl (by conv => lhs; simp [h1, lB, hle2, htk]) (by conv => lhs; simp [h1, lB, hle2, htk]) (by first | rfl | simp [inlT, inlV]) | fail "no return here"
  · have hlt : k < nodes.length := by omega
    obtain ⟨x, hx⟩ := get_lt hlt
    have hRk := hget k x hx
    have hUk := hUg k _ hRk
    have g1 := mix_get (U := U) (R := R) (k := k) (by omega) hRk
    have g2 := mix_set (R := R) hUk (by omega)
    have g3 := mix_len (U := U) (R := R) (k := k) (by omega) (by omega)
    generalize mix U R k = X at h1 g1 g2 g3
    have q1 : (k : Int) < nodes.length := by omega
    have q2 : ¬ nodes.length ≤ k := by omega
    have q3 : ¬ X.length ≤ k := by omega
    have q4 : k + 1 ≤ X.length := by omega
    have q5 : k < X.length := by omega
    have hw := w64_succ hlt (capX (by omega))
    have ha := hav x
    repeat (first | refine N.seq ?_ | refine N.blk ?_ | refine W.seq rfl ?_ | refine W.block rfl ?_ | refine W.skip rfl ?_ | refine W.ret rfl ?_ | refine N.nil ?_ | refine N.loop ?_ | refine W.exit rfl ?_ | refine X.seq ?_ | refine X.loop ?_ | refine X.hit ?_ | refine X.pass (by decide) ?_ | refine W.condT rfl (by rfl) ?_ | refine W.condF rfl (by rfl) ?_ | refine W.region tm up_specs_ok rfl (by conv => lhs; simp [h1, lB, q1, q2, q3, g1, ldOf, Ld.cells, ha, hw]) fun _ => ?_ | refine W.regionD tm up_specs_ok rfl (by conv => lhs; simp [h1, lB, q1, q2, q3, g1, ldOf, Ld.cells, ha, hw]) (by conv => lhs; simp) (by kernel_rfl) fun _ => ?_)
    exact ⟨⟨(k + 1, _), hlt, by dsimp only; rw [← g2, List.map_set]; simp [lk_st, lB, upd1, ldOf, Ld.cells]⟩, by dsimp only; omega, AS.le_of rfl ⟨rfl, rfl, rfl, trivial⟩ (fun _ => rfl)⟩
end Go.Abs.Po
namespace Go.Abs.Po
open Go Go.Proofs Go.Abs
set_option maxRecDepth 100000
set_option maxHeartbeats 4000000
set_option linter.unusedSimpArgs false
set_option linter.unusedVariables false
theorem dec_len2 {l : List Ld} {gs : List (List Int)} {pl : List Pl} {t : Tm} (h : ∀ g ∈ gs, g.length ≤ 16) : (dec l gs pl t).length ≤ 16 := by
  unfold dec
  split
  · rcases first_cases (pick l).1 (pick l).2.1 pl gs with e | ⟨g, hg, _, e⟩
    · rw [e]; simp
    · rw [e, pland, List.length_map]; exact h g hg
  · simp
structure Dw where
  L : List Int
  M : List Int
  raw : List (List Int)
  loads : List Ld
  t : Tm
  hL : L.length ≤ maxLen
  hM : M.length ≤ maxLen
  hr : raw.length ≤ maxLen
  hl : loads.length ≤ maxLen
  hr' : ∀ g ∈ raw, g.length ≤ maxLen
def encDw (x : Dw) : List AV := [.list 1 (x.L.map ic), .list 1 (x.M.map ic), .list 1 (x.raw.map gL), .list 3 (x.loads.map Ld.cells), .agg x.t.cells]
theorem encDw_inj {β : Type} {f : Dw → β} (hf : ∀ x y, f x = f y) : ∀ x y, encDw x = encDw y → f x = f y := fun x y _ => hf x y
noncomputable def ld_specs : NL Spec := [(7, ⟨0, saneS⟩), (8, ⟨1, placesS⟩), (9, ⟨1, groupsS⟩), (10, ⟨1, countrS⟩), (11, ⟨1, upS⟩), (12, ⟨1, decS⟩), (13, ⟨1, decS⟩), (14, ⟨0, spS⟩), (15, ⟨0, smS⟩), (16, ⟨1, carS⟩), (17, ⟨1, carS⟩), (18, ⟨1, setS⟩), (19, ⟨1, setS⟩)]
theorem ld_specs_ok : ∀ p ∈ ld_specs, FnC Try.prog p.1 p.2.fn := by
  simp only [ld_specs, List.mem_cons, List.not_mem_nil, or_false]
  rintro p (rfl | rfl | rfl | rfl | rfl | rfl | rfl | rfl | rfl | rfl | rfl | rfl | rfl)
  · exact sane_ok
  · exact places_ok
  · exact groups_ok
  · exact countr_ok
  · exact up_ok
  · exact dec_ok
  · exact decr_ok
  · exact sp_ok
  · exact sm_ok
  · exact car_ok
  · exact carr_ok
  · exact set_ok
  · exact setr_ok
attribute [local simp] runL stepA execA_eq skipA run_ret run_fail run_get run_put run_asm num lk st lk_st putA AS.ev ofValue ofFlat mkv splice fieldAddrA buildA fillA runF gdst pickA unOpA extractA resVs resV pack frzT inlT inlV frzV frzVs frzL frz1 newId AV.cellsOf AV.flat AV.flat2 specOf loadA_runR capA copyA copyTo srcA sliceCA slice3A appendZA extA AV.place lenCA clearA clearTo expG expB3 List.zipWith renL fF handB renB AV.ren backF backL idsOf freshIds refsL refsB AV.refs List.range List.range.loop placesA sliceRows rowsOf convertA sliceArrA sliceA bndA nilCheckA arrayAtA mmA lookupA keyOf keyOK findA keyEqA foundA makeMapA mapUpdateA appendA rowsA indexA partA fieldA retE2 frqT frqV frqVs frqL frq1 reachE blkRefs outE nodupE firstE seqO expB2 expF instA take_len_map List.findIdx?_cons List.findIdx?_nil ld_specs saneS_eq
def vg (g : Nat) (nodes : List Int) (P : AV) : ABlk := { gen := g, kind := 2, elem := 38, size := 6, inl := false, rows := [vA 1 nodes P] }
def tg' (g : Nat) (t : Tm) : ABlk := { gen := g, kind := 2, elem := 26, size := 3, inl := false, rows := [t.cells] }
def rL (l : List Ld) : List AV := [.list 3 (l.map Ld.cells)]
def rG (gs : List (List Int)) : List AV := [.list 1 (gs.map gL)]
def aL (g : Nat) (A : List (List Ld)) : ABlk := { gen := g, kind := 2, elem := 24, size := 1, inl := true, rows := A.map rL }
def aG (g : Nat) (B : List (List (List Int))) : ABlk := { gen := g, kind := 2, elem := 23, size := 1, inl := true, rows := B.map rG }
def aT (g : Nat) (C : List Tm) : ABlk := { gen := g, kind := 2, elem := 26, size := 3, inl := true, rows := C.map Tm.cells }
def tmB1 (t : Tm) : ABlk := { gen := 1, kind := 2, elem := 26, size := 3, inl := false, rows := [t.cells] }
theorem dec_walk {nodes : List Int} {pl : List Pl} {gs raw : List (List Int)} {loads : List Ld} {t : Tm} {hi : Int} {P : AV} {L M : List Int} (hm : Made2 nodes pl gs ⟨hi, 0, 3⟩) (hIP : IsP P pl)
    (hr : raw.length ≤ maxLen) (hl : loads.length ≤ maxLen)
    (hP : placesS [.list 1 (L.map ic)] [] = some (.tup [.agg [.int .i64 1, .list 1 (nodes.map ic), .nils, P, .nils, .nils], .agg [.int .i64 hi, .int .i64 0, .int .i64 3]], []))
    (hG : groupsS [.list 1 (M.map ic), .agg [.int .i64 1, .list 1 (nodes.map ic), .nils, P, .nils, .nils]] [] = some (.list 1 (gs.map gL), [])) :
    W Try.prog (Ret Try.prog Try.f3 (.bool true) []) (codeOf Try.f3) [] ⟨172, [(0, .list 1 (L.map ic)), (1, .list 1 (M.map ic)), (2, .list 1 (raw.map gL)), (3, .list 3 (loads.map Ld.cells)), (4, .agg t.cells)], []⟩ := by
  by_cases c1 : raw.length ≤ 8
  · by_cases c2 : loads.length ≤ 8
    · have c1' : ¬ (8 : Int) < raw.length := by omega
      have c2' : ¬ (8 : Int) < loads.length := by omega
      have c1'' : ¬ 8 < raw.length := by omega
      have c2'' : ¬ 8 < loads.length := by omega
      repeat (first | refine N.seq ?_ | refine N.blk ?_ | refine W.seq rfl ?_ | refine W.block rfl ?_ | refine W.skip rfl ?_ | refine W.ret rfl ?_ | refine N.nil ?_ | refine N.loop ?_ | refine W.exit rfl ?_ | refine X.seq ?_ | refine X.loop ?_ | refine X.hit ?_ | refine X.pass (by decide) ?_ | refine W.condT rfl (by rfl) ?_ | refine W.condF rfl (by rfl) ?_ | refine W.region tm ld_specs_ok rfl (by conv => lhs; simp [c1', c2', c1'', c2'', Tm.cells]) fun _ => ?_ | refine W.regionD tm ld_specs_ok rfl (by conv => lhs; simp [c1', c2', c1'', c2'', Tm.cells]) (by conv => lhs; simp) (by kernel_rfl) fun _ => ?_)
      refine W.loop rfl (ι := { q : Nat × NL ABlk // q.1 ≤ loads.length ∧ lk q.2 160 = some (tmB1 t) })
        (fun q => ⟨172, [(0, .list 1 (L.map ic)), (1, .list 1 (M.map ic)), (2, .list 1 (raw.map gL)), (3, .list 3 (loads.map Ld.cells)), (9, .ptr 160 1 0 0), (42, .list 3 (loads.map Ld.cells)), (43, .int .i64 loads.length), (44, .int .i64 (q.1.1 : Nat))], q.1.2⟩) (fun q => loads.length - q.1.1)
        ⟨(0, _), by simp, by rfl⟩ (AS.le_of rfl ⟨rfl, rfl, rfl, rfl, rfl, rfl, rfl, rfl, trivial⟩ (fun _ => rfl)) ?_
      rintro ⟨⟨k, h⟩, hk, h1⟩
      dsimp only at hk h1 ⊢
      by_cases hk2 : k = loads.length
      · subst hk2
        repeat (first | refine N.seq ?_ | refine N.blk ?_ | refine W.seq rfl ?_ | refine W.block rfl ?_ | refine W.skip rfl ?_ | refine W.ret rfl ?_ | refine N.nil ?_ | refine N.loop ?_ | refine W.exit rfl ?_ | refine X.seq ?_ | refine X.loop ?_ | refine X.hit ?_ | refine X.pass (by decide) ?_ | refine W.condT rfl (by rfl) ?_ | refine W.condF rfl (by rfl) ?_ | refine W.region tm ld_specs_ok rfl (by conv => lhs; simp) fun _ => ?_ | refine W.regionD tm ld_specs_ok rfl (by conv => lhs; simp) (by conv => lhs; simp) (by kernel_rfl) fun _ => ?_)
        refine W.loop rfl (ι := { q : Nat × NL ABlk // q.1 ≤ raw.length ∧ (∀ g ∈ raw.take q.1, g.length ≤ 16) ∧ lk q.2 160 = some (tmB1 t) })
          (fun q => ⟨172, [(0, .list 1 (L.map ic)), (1, .list 1 (M.map ic)), (2, .list 1 (raw.map gL)), (3, .list 3 (loads.map Ld.cells)), (9, .ptr 160 1 0 0), (67, .list 1 (raw.map gL)), (68, .int .i64 raw.length), (69, .int .i64 (q.1.1 : Nat))], q.1.2⟩) (fun q => raw.length - q.1.1)
          ⟨(0, _), by simp, by simp, h1⟩ (AS.le_of rfl ⟨rfl, rfl, rfl, rfl, rfl, rfl, rfl, rfl, trivial⟩ (fun _ => rfl)) ?_
        clear hk h1 h
        rintro ⟨⟨k, h⟩, hk, hr16, h1⟩
        dsimp only at hk hr16 h1 ⊢
        by_cases hk2 : k = raw.length
        · subst hk2
          rw [List.take_length] at hr16
          have n1 : nodes.length ≤ 8 := by have := hm.hn; omega
          have n2 : pl.length ≤ 200 := by have := hm.hl; omega
          have hC := countrS_eq 1 nodes P pl hIP n1 n2
          have hU := upS_eq loads (by omega) 1 nodes P pl hIP n1 n2
          have hIQ := hIP
          rcases hIP with hIP | ⟨hIP, _⟩
          all_goals
            simp only [hIP] at hP hG hC hU
            repeat (first | refine N.seq ?_ | refine N.blk ?_ | refine W.seq rfl ?_ | refine W.block rfl ?_ | refine W.skip rfl ?_ | refine W.ret rfl ?_ | refine N.nil ?_ | refine N.loop ?_ | refine W.exit rfl ?_ | refine X.seq ?_ | refine X.loop ?_ | refine X.hit ?_ | refine X.pass (by decide) ?_ | refine W.condT rfl (by rfl) ?_ | refine W.condF rfl (by rfl) ?_ | refine W.region tm ld_specs_ok rfl (by conv => lhs; simp [hP, hG, hC, hU, maxLen, c2]) fun _ => ?_ | refine W.regionD tm ld_specs_ok rfl (by conv => lhs; simp [hP, hG, hC, hU, maxLen, c2]) (by conv => lhs; simp) (by kernel_rfl) fun _ => ?_)
            have hA : ∀ (k : Nat), k < 3 → ∃ l, ([lds nodes pl, updL loads (lds nodes pl), loads] : List (List Ld))[k]? = some l ∧ l.length ≤ 200 := fun k hk => by
              have l1 : (lds nodes pl).length = nodes.length := by simp [lds]
              have : k = 0 ∨ k = 1 ∨ k = 2 := by omega
              rcases this with rfl | rfl | rfl
              · exact ⟨_, rfl, by omega⟩
              · exact ⟨_, rfl, by simp only [updL, List.length_map]; omega⟩
              · exact ⟨_, rfl, by omega⟩
            have hB : ∀ (k : Nat), k < 2 → ∃ g, ([gs, raw] : List (List (List Int)))[k]? = some g ∧ g.length ≤ 14 ∧ ∀ x ∈ g, x.length ≤ 16 := fun k hk => by
              have : k = 0 ∨ k = 1 := by omega
              rcases this with rfl | rfl
              · exact ⟨_, rfl, hm.hg, hm.hg'⟩
              · exact ⟨_, rfl, by omega, hr16⟩
            have hT : ∀ (k : Nat), k < 2 → ∃ u, ([⟨hi, 0, 3⟩, t] : List Tm)[k]? = some u := fun k hk => by
              have : k = 0 ∨ k = 1 := by omega
              rcases this with rfl | rfl <;> exact ⟨_, rfl⟩
            have hrows : ([[.list 3 ((lds nodes pl).map Ld.cells)], [.list 3 ((updL loads (lds nodes pl)).map Ld.cells)], [.list 3 (loads.map Ld.cells)]] : List (List AV)) = ([lds nodes pl, updL loads (lds nodes pl), loads] : List (List Ld)).map rL := rfl
            rw [hrows]
            have hAl : ([lds nodes pl, updL loads (lds nodes pl), loads] : List (List Ld)).length = 3 := rfl
            generalize ([lds nodes pl, updL loads (lds nodes pl), loads] : List (List Ld)) = A at hA hAl ⊢
            generalize ((lk h 256).getD {}).gen + 1 = g1
            generalize ((lk h 272).getD {}).gen + 1 = g2
            generalize ((lk h 1472).getD {}).gen + 1 = g3
            refine W.loop rfl (ι := { q : Nat × NL ABlk // q.1 ≤ 3 ∧ lk q.2 160 = some (tmB1 t) ∧ lk q.2 256 = some (vg g1 nodes P) ∧ lk q.2 272 = some (tg' g2 ⟨hi, 0, 3⟩) ∧ lk q.2 1472 = some (aL g3 A) })
              (fun q => ⟨172, [(2, .list 1 (raw.map gL)), (9, .ptr 160 1 0 0), (15, .ptr 256 g1 0 0), (16, .ptr 272 g2 0 0), (17, .list 1 (gs.map gL)), (91, .sl 1472 g3 0 3), (92, .int .i64 3), (93, .int .i64 (q.1.1 : Nat))], q.1.2⟩) (fun q => 3 - q.1.1)
              ⟨(0, _), by simp, by simp [lk_st, h1], by simp [lk_st, vg, vA, hIP], by simp [lk_st, tg', Tm.cells], by simp [lk_st, aL]⟩ (AS.le_of rfl ⟨rfl, rfl, rfl, rfl, rfl, rfl, rfl, rfl, trivial⟩ (fun _ => rfl)) ?_
            clear hk h1 h
            rintro ⟨⟨k, h⟩, hk, h1, h2, h3, h4⟩
            dsimp only at hk h1 h2 h3 h4 ⊢
            by_cases hk2 : k = 3
            · subst hk2
              repeat (first | refine N.seq ?_ | refine N.blk ?_ | refine W.seq rfl ?_ | refine W.block rfl ?_ | refine W.skip rfl ?_ | refine W.ret rfl ?_ | refine N.nil ?_ | refine N.loop ?_ | refine W.exit rfl ?_ | refine X.seq ?_ | refine X.loop ?_ | refine X.hit ?_ | refine X.pass (by decide) ?_ | refine W.condT rfl (by rfl) ?_ | refine W.condF rfl (by rfl) ?_ | refine W.region tm ld_specs_ok rfl (by conv => lhs; simp [h4, aL, hAl, maxLen]) fun _ => ?_ | refine W.regionD tm ld_specs_ok rfl (by conv => lhs; simp [h4, aL, hAl, maxLen]) (by conv => lhs; simp) (by kernel_rfl) fun _ => ?_)
              have hr2 : ([[.list 1 (gs.map gL)], [.list 1 (raw.map gL)]] : List (List AV)) = ([gs, raw] : List (List (List Int))).map rG := rfl
              rw [hr2]
              have hBl : ([gs, raw] : List (List (List Int))).length = 2 := rfl
              generalize ([gs, raw] : List (List (List Int))) = B at hB hBl ⊢
              generalize ((lk h 2288).getD {}).gen + 1 = g4
              refine W.loop rfl (ι := { q : Nat × NL ABlk // q.1 ≤ 2 ∧ lk q.2 256 = some (vg g1 nodes P) ∧ lk q.2 272 = some (tg' g2 ⟨hi, 0, 3⟩) ∧ lk q.2 2288 = some (aG g4 B) })
                (fun q => ⟨172, [(15, .ptr 256 g1 0 0), (16, .ptr 272 g2 0 0), (142, .sl 2288 g4 0 2), (143, .int .i64 2), (144, .int .i64 (q.1.1 : Nat))], q.1.2⟩) (fun q => 2 - q.1.1)
                ⟨(0, _), by simp, by simp [lk_st, h2], by simp [lk_st, h3], by simp [lk_st, aG]⟩ (AS.le_of rfl ⟨rfl, rfl, rfl, rfl, rfl, trivial⟩ (fun _ => rfl)) ?_
              clear hk h1 h2 h3 h4 h
              rintro ⟨⟨k, h⟩, hk, h2, h3, h4⟩
              dsimp only at hk h2 h3 h4 ⊢
              by_cases hk2 : k = 2
              · subst hk2
                repeat (first | refine N.seq ?_ | refine N.blk ?_ | refine W.seq rfl ?_ | refine W.block rfl ?_ | refine W.skip rfl ?_ | refine W.ret rfl ?_ | refine N.nil ?_ | refine N.loop ?_ | refine W.exit rfl ?_ | refine X.seq ?_ | refine X.loop ?_ | refine X.hit ?_ | refine X.pass (by decide) ?_ | refine W.condT rfl (by rfl) ?_ | refine W.condF rfl (by rfl) ?_ | refine W.region tm ld_specs_ok rfl (by conv => lhs; simp [h4, aG, hBl]) fun _ => ?_ | refine W.regionD tm ld_specs_ok rfl (by conv => lhs; simp [h4, aG, hBl]) (by conv => lhs; simp) (by kernel_rfl) fun _ => ?_)
                first | exact Ret.dataR rfl (by conv => lhs; simp) (by conv => lhs; simp) (by first | rfl | simp [inlT, inlV]) | fail "no return here"
              · obtain ⟨g, hg, hg14, hg16⟩ := hB k (by omega)
                have hm' : Made2 nodes pl g ⟨hi, 0, 3⟩ := ⟨⟨hm.hn, hm.un, hm.hl, hg14, hg16, hm.ht⟩, hm.nd, hm.srt⟩
                obtain ⟨r, m, hr, hm98, hde, hr2, hst⟩ := settled hm'
                have hrl : r.length = pl.length := by have := congrArg List.length hst.ids; simpa using this
                have n7 : r.length ≤ 200 := by omega
                have hT := setS_eq 1 nodes P pl hIQ n1 n2 g (by omega) (fun x hx => by have := hg16 x hx; omega) ⟨hi, 0, 3⟩ _ hr
                have hS := smS_eq 1 nodes (plL r) (plL r) r (isP_plL r) (isP_plL r) n1 n7
                simp only [hIP, plL] at hT hS
                clear hr hr2 hst hde
                have q1 : (k : Int) < 2 := by omega
                have q2 : ¬ 2 ≤ k := by omega
                have q3 : ¬ B.length ≤ k := by omega
                have hw : IntKind.i64.wrap ((k : Int) + 1) = ((k + 1 : Nat) : Int) := w64 (by omega) (by omega)
                repeat (first | refine N.seq ?_ | refine N.blk ?_ | refine W.seq rfl ?_ | refine W.block rfl ?_ | refine W.skip rfl ?_ | refine W.ret rfl ?_ | refine N.nil ?_ | refine N.loop ?_ | refine W.exit rfl ?_ | refine X.seq ?_ | refine X.loop ?_ | refine X.hit ?_ | refine X.pass (by decide) ?_ | refine W.condT rfl (by rfl) ?_ | refine W.condF rfl (by rfl) ?_ | refine W.region tm ld_specs_ok rfl (by conv => lhs; simp [q1, q2, q3, h4, aG, hg, rG, h2, vg, vA, hIP, h3, tg', Tm.cells, hT, hS, hw]) fun _ => ?_ | refine W.regionD tm ld_specs_ok rfl (by conv => lhs; simp [q1, q2, q3, h4, aG, hg, rG, h2, vg, vA, hIP, h3, tg', Tm.cells, hT, hS, hw]) (by conv => lhs; simp) (by kernel_rfl) fun _ => ?_)
                exact ⟨⟨(k + 1, _), by dsimp only; omega, by simp [lk_st, h2, vg, vA, hIP], by simp [lk_st, h3, tg', Tm.cells], by simp [lk_st, h4, aG]⟩, by dsimp only; omega, AS.le_of rfl ⟨rfl, rfl, rfl, rfl, rfl, trivial⟩ (fun _ => rfl)⟩
            · obtain ⟨l, hl', hl2⟩ := hA k (by omega)
              have q1 : (k : Int) < 3 := by omega
              have q2 : ¬ 3 ≤ k := by omega
              have q3 : ¬ A.length ≤ k := by omega
              have q4 : k + 1 ≤ A.length := by omega
              have hw : IntKind.i64.wrap ((k : Int) + 1) = ((k + 1 : Nat) : Int) := w64 (by omega) (by omega)
              repeat (first | refine N.seq ?_ | refine N.blk ?_ | refine W.seq rfl ?_ | refine W.block rfl ?_ | refine W.skip rfl ?_ | refine W.ret rfl ?_ | refine N.nil ?_ | refine N.loop ?_ | refine W.exit rfl ?_ | refine X.seq ?_ | refine X.loop ?_ | refine X.hit ?_ | refine X.pass (by decide) ?_ | refine W.condT rfl (by rfl) ?_ | refine W.condF rfl (by rfl) ?_ | refine W.region tm ld_specs_ok rfl (by conv => lhs; simp [q1, q2, q3, h4, aL, hl', rL, maxLen]) fun _ => ?_ | refine W.regionD tm ld_specs_ok rfl (by conv => lhs; simp [q1, q2, q3, h4, aL, hl', rL, maxLen]) (by conv => lhs; simp) (by kernel_rfl) fun _ => ?_)
              have hr2 : ([[.list 1 (gs.map gL)], [.list 1 (raw.map gL)]] : List (List AV)) = ([gs, raw] : List (List (List Int))).map rG := rfl
              rw [hr2]
              have hBl : ([gs, raw] : List (List (List Int))).length = 2 := rfl
              generalize ([gs, raw] : List (List (List Int))) = B at hB hBl ⊢
              generalize ((lk h 1600).getD {}).gen + 1 = g4
              refine W.loop rfl (ι := { q : Nat × NL ABlk // q.1 ≤ 2 ∧ lk q.2 160 = some (tmB1 t) ∧ lk q.2 256 = some (vg g1 nodes P) ∧ lk q.2 272 = some (tg' g2 ⟨hi, 0, 3⟩) ∧ lk q.2 1472 = some (aL g3 A) ∧ lk q.2 1600 = some (aG g4 B) })
                (fun q => ⟨172, [(2, .list 1 (raw.map gL)), (9, .ptr 160 1 0 0), (15, .ptr 256 g1 0 0), (16, .ptr 272 g2 0 0), (17, .list 1 (gs.map gL)), (19, .list 3 (l.map Ld.cells)), (91, .sl 1472 g3 0 3), (92, .int .i64 3), (93, .int .i64 (k : Nat)), (99, .sl 1600 g4 0 2), (100, .int .i64 2), (101, .int .i64 (q.1.1 : Nat))], q.1.2⟩) (fun q => 2 - q.1.1)
                ⟨(0, _), by simp, by simp [lk_st, h1], by simp [lk_st, h2], by simp [lk_st, h3], by simp [lk_st, h4], by simp [lk_st, aG]⟩ (AS.le_of rfl ⟨rfl, rfl, rfl, rfl, rfl, rfl, rfl, rfl, rfl, rfl, rfl, rfl, trivial⟩ (fun _ => rfl)) ?_
              clear h1 h2 h3 h4 h
              rintro ⟨⟨i, h⟩, hi2, h1, h2, h3, h4, h5⟩
              dsimp only at hi2 h1 h2 h3 h4 h5 ⊢
              by_cases hk3 : i = 2
              · subst hk3
                repeat (first | refine N.seq ?_ | refine N.blk ?_ | refine W.seq rfl ?_ | refine W.block rfl ?_ | refine W.skip rfl ?_ | refine W.ret rfl ?_ | refine N.nil ?_ | refine N.loop ?_ | refine W.exit rfl ?_ | refine X.seq ?_ | refine X.loop ?_ | refine X.hit ?_ | refine X.pass (by decide) ?_ | refine W.condT rfl (by rfl) ?_ | refine W.condF rfl (by rfl) ?_ | refine W.region tm ld_specs_ok rfl (by conv => lhs; simp [h4, h5, aL, aG, hAl, hBl, hw]) fun _ => ?_ | refine W.regionD tm ld_specs_ok rfl (by conv => lhs; simp [h4, h5, aL, aG, hAl, hBl, hw]) (by conv => lhs; simp) (by kernel_rfl) fun _ => ?_)
                exact ⟨⟨(k + 1, _), by dsimp only; omega, h1, h2, h3, h4⟩, by dsimp only; omega, AS.le_of rfl ⟨rfl, rfl, rfl, rfl, rfl, rfl, rfl, rfl, trivial⟩ (fun _ => rfl)⟩
              · obtain ⟨g, hg, hg14, hg16⟩ := hB i (by omega)
                have q1 : (i : Int) < 2 := by omega
                have q2 : ¬ 2 ≤ i := by omega
                have q3 : ¬ B.length ≤ i := by omega
                have hwi : IntKind.i64.wrap ((i : Int) + 1) = ((i + 1 : Nat) : Int) := w64 (by omega) (by omega)
                repeat (first | refine N.seq ?_ | refine N.blk ?_ | refine W.seq rfl ?_ | refine W.block rfl ?_ | refine W.skip rfl ?_ | refine W.ret rfl ?_ | refine N.nil ?_ | refine N.loop ?_ | refine W.exit rfl ?_ | refine X.seq ?_ | refine X.loop ?_ | refine X.hit ?_ | refine X.pass (by decide) ?_ | refine W.condT rfl (by rfl) ?_ | refine W.condF rfl (by rfl) ?_ | refine W.region tm ld_specs_ok rfl (by conv => lhs; simp [q1, q2, q3, h5, aG, hg, rG, h1, tmB1, h3, tg', Tm.cells, maxLen]) fun _ => ?_ | refine W.regionD tm ld_specs_ok rfl (by conv => lhs; simp [q1, q2, q3, h5, aG, hg, rG, h1, tmB1, h3, tg', Tm.cells, maxLen]) (by conv => lhs; simp) (by kernel_rfl) fun _ => ?_)
                have hr3 : ([[.int .i64 hi, .int .i64 0, .int .i64 3], [.int .i64 t.high, .int .i64 t.low, .int .i64 t.rounds]] : List (List AV)) = ([⟨hi, 0, 3⟩, t] : List Tm).map Tm.cells := rfl
                rw [hr3]
                have hCl : ([⟨hi, 0, 3⟩, t] : List Tm).length = 2 := rfl
                generalize ([⟨hi, 0, 3⟩, t] : List Tm) = C at hT hCl ⊢
                generalize ((lk h 1728).getD {}).gen + 1 = g5
                refine W.loop rfl (ι := { q : Nat × NL ABlk // q.1 ≤ 2 ∧ lk q.2 160 = some (tmB1 t) ∧ lk q.2 256 = some (vg g1 nodes P) ∧ lk q.2 272 = some (tg' g2 ⟨hi, 0, 3⟩) ∧ lk q.2 1472 = some (aL g3 A) ∧ lk q.2 1600 = some (aG g4 B) ∧ lk q.2 1728 = some (aT g5 C) })
                  (fun q => ⟨172, [(2, .list 1 (raw.map gL)), (9, .ptr 160 1 0 0), (15, .ptr 256 g1 0 0), (16, .ptr 272 g2 0 0), (17, .list 1 (gs.map gL)), (19, .list 3 (l.map Ld.cells)), (21, .list 1 (g.map gL)), (91, .sl 1472 g3 0 3), (92, .int .i64 3), (93, .int .i64 (k : Nat)), (99, .sl 1600 g4 0 2), (100, .int .i64 2), (101, .int .i64 (i : Nat)), (107, .sl 1728 g5 0 2), (108, .int .i64 2), (109, .int .i64 (q.1.1 : Nat))], q.1.2⟩) (fun q => 2 - q.1.1)
                  ⟨(0, _), by simp, by simp [lk_st, h1], by simp [lk_st, h2], by simp [lk_st, h3], by simp [lk_st, h4], by simp [lk_st, h5, aG], by simp [lk_st, aT]⟩ (AS.le_of rfl ⟨rfl, rfl, rfl, rfl, rfl, rfl, rfl, rfl, rfl, rfl, rfl, rfl, rfl, rfl, rfl, rfl, trivial⟩ (fun _ => rfl)) ?_
                clear h1 h2 h3 h4 h5 h
                rintro ⟨⟨e, h⟩, he2, h1, h2, h3, h4, h5, h6⟩
                dsimp only at he2 h1 h2 h3 h4 h5 h6 ⊢
                by_cases hk4 : e = 2
                · subst hk4
                  repeat (first | refine N.seq ?_ | refine N.blk ?_ | refine W.seq rfl ?_ | refine W.block rfl ?_ | refine W.skip rfl ?_ | refine W.ret rfl ?_ | refine N.nil ?_ | refine N.loop ?_ | refine W.exit rfl ?_ | refine X.seq ?_ | refine X.loop ?_ | refine X.hit ?_ | refine X.pass (by decide) ?_ | refine W.condT rfl (by rfl) ?_ | refine W.condF rfl (by rfl) ?_ | refine W.region tm ld_specs_ok rfl (by conv => lhs; simp [h5, h6, aG, aT, hBl, hCl, hwi]) fun _ => ?_ | refine W.regionD tm ld_specs_ok rfl (by conv => lhs; simp [h5, h6, aG, aT, hBl, hCl, hwi]) (by conv => lhs; simp) (by kernel_rfl) fun _ => ?_)
                  exact ⟨⟨(i + 1, _), by dsimp only; omega, h1, h2, h3, h4, h5⟩, by dsimp only; omega, AS.le_of rfl ⟨rfl, rfl, rfl, rfl, rfl, rfl, rfl, rfl, rfl, rfl, rfl, rfl, trivial⟩ (fun _ => rfl)⟩
                · obtain ⟨u, hu⟩ := hT e (by omega)
                  have r1 : (e : Int) < 2 := by omega
                  have r2 : ¬ 2 ≤ e := by omega
                  have r3 : ¬ C.length ≤ e := by omega
                  have hwe : IntKind.i64.wrap ((e : Int) + 1) = ((e + 1 : Nat) : Int) := w64 (by omega) (by omega)
                  have hD := decS_eq l hl2 g (by omega) (fun x hx => by have := hg16 x hx; omega) 1 nodes P pl hIQ n1 n2 u
                  have hdl := dec_len2 (l := l) (pl := pl) (t := u) hg16
                  generalize dec l g pl u = ps at hD hdl
                  have hE := spS_eq ps (by omega)
                  have hK := carS_eq 1 nodes P pl ps hIQ n1 (by have := hm.hl; omega)
                  have hcl := car_len ps pl
                  have hS := smS_eq 1 nodes (plL (car pl ps)) (plL (car pl ps)) (car pl ps) (isP_plL _) (isP_plL _) n1 (by have := hm.hl; omega)
                  simp only [hIP, plL] at hD hK hS
                  by_cases hps : ps = []
                  · simp only [pnV, if_pos hps] at hD hE hK
                    repeat (first | refine N.seq ?_ | refine N.blk ?_ | refine W.seq rfl ?_ | refine W.block rfl ?_ | refine W.skip rfl ?_ | refine W.ret rfl ?_ | refine N.nil ?_ | refine N.loop ?_ | refine W.exit rfl ?_ | refine X.seq ?_ | refine X.loop ?_ | refine X.hit ?_ | refine X.pass (by decide) ?_ | refine W.condT rfl (by rfl) ?_ | refine W.condF rfl (by rfl) ?_ | refine W.region tm ld_specs_ok rfl (by conv => lhs; simp [r1, r2, r3, h6, aT, hu, Tm.cells, h2, vg, vA, hIP, hD, hE, hK, hS, hwe]) fun _ => ?_ | refine W.regionD tm ld_specs_ok rfl (by conv => lhs; simp [r1, r2, r3, h6, aT, hu, Tm.cells, h2, vg, vA, hIP, hD, hE, hK, hS, hwe]) (by conv => lhs; simp) (by kernel_rfl) fun _ => ?_)
                    exact ⟨⟨(e + 1, _), by dsimp only; omega, by simp [lk_st, h1], by simp [lk_st, h2, vg, vA, hIP], by simp [lk_st, h3], by simp [lk_st, h4], by simp [lk_st, h5], by simp [lk_st, h6, aT]⟩, by dsimp only; omega, AS.le_of rfl ⟨rfl, rfl, rfl, rfl, rfl, rfl, rfl, rfl, rfl, rfl, rfl, rfl, rfl, rfl, rfl, rfl, trivial⟩ (fun _ => rfl)⟩
                  · simp only [pnV, if_neg hps] at hD hE hK
                    repeat (first | refine N.seq ?_ | refine N.blk ?_ | refine W.seq rfl ?_ | refine W.block rfl ?_ | refine W.skip rfl ?_ | refine W.ret rfl ?_ | refine N.nil ?_ | refine N.loop ?_ | refine W.exit rfl ?_ | refine X.seq ?_ | refine X.loop ?_ | refine X.hit ?_ | refine X.pass (by decide) ?_ | refine W.condT rfl (by rfl) ?_ | refine W.condF rfl (by rfl) ?_ | refine W.region tm ld_specs_ok rfl (by conv => lhs; simp [r1, r2, r3, h6, aT, hu, Tm.cells, h2, vg, vA, hIP, hD, hE, hK, hS, hwe]) fun _ => ?_ | refine W.regionD tm ld_specs_ok rfl (by conv => lhs; simp [r1, r2, r3, h6, aT, hu, Tm.cells, h2, vg, vA, hIP, hD, hE, hK, hS, hwe]) (by conv => lhs; simp) (by kernel_rfl) fun _ => ?_)
                    exact ⟨⟨(e + 1, _), by dsimp only; omega, by simp [lk_st, h1], by simp [lk_st, h2, vg, vA, hIP], by simp [lk_st, h3], by simp [lk_st, h4], by simp [lk_st, h5], by simp [lk_st, h6, aT]⟩, by dsimp only; omega, AS.le_of rfl ⟨rfl, rfl, rfl, rfl, rfl, rfl, rfl, rfl, rfl, rfl, rfl, rfl, rfl, rfl, rfl, rfl, trivial⟩ (fun _ => rfl)⟩
        · have hlt : k < raw.length := by omega
          obtain ⟨g, hx⟩ := get_lt hlt
          have q1 : (k : Int) < raw.length := by omega
          have q2 : ¬ raw.length ≤ k := by omega
          have hw := w64_succ hlt (capX (by omega))
          by_cases c : g.length ≤ 10
          · have c' : ¬ (10 : Int) < g.length := by omega
            have c'' : ¬ 10 < g.length := by omega
            repeat (first | refine N.seq ?_ | refine N.blk ?_ | refine W.seq rfl ?_ | refine W.block rfl ?_ | refine W.skip rfl ?_ | refine W.ret rfl ?_ | refine N.nil ?_ | refine N.loop ?_ | refine W.exit rfl ?_ | refine X.seq ?_ | refine X.loop ?_ | refine X.hit ?_ | refine X.pass (by decide) ?_ | refine W.condT rfl (by rfl) ?_ | refine W.condF rfl (by rfl) ?_ | refine W.region tm ld_specs_ok rfl (by conv => lhs; simp [q1, q2, hx, gL, c', c'', hw]) fun _ => ?_ | refine W.regionD tm ld_specs_ok rfl (by conv => lhs; simp [q1, q2, hx, gL, c', c'', hw]) (by conv => lhs; simp) (by kernel_rfl) fun _ => ?_)
            exact ⟨⟨(k + 1, _), hlt, fun g' hg' => by
              rw [List.take_add_one, hx, List.mem_append] at hg'
              rcases hg' with hg' | hg'
              · exact hr16 g' hg'
              · simp at hg'; subst hg'; omega, h1⟩, by dsimp only; omega, AS.le_of rfl ⟨rfl, rfl, rfl, rfl, rfl, rfl, rfl, rfl, trivial⟩ (fun _ => rfl)⟩
          · have c' : (10 : Int) < g.length := by omega
            have c'' : 10 < g.length := by omega
            repeat (first | refine N.seq ?_ | refine N.blk ?_ | refine W.seq rfl ?_ | refine W.block rfl ?_ | refine W.skip rfl ?_ | refine W.ret rfl ?_ | refine N.nil ?_ | refine N.loop ?_ | refine W.exit rfl ?_ | refine X.seq ?_ | refine X.loop ?_ | refine X.hit ?_ | refine X.pass (by decide) ?_ | refine W.condT rfl (by rfl) ?_ | refine W.condF rfl (by rfl) ?_ | refine W.region tm ld_specs_ok rfl (by conv => lhs; simp [q1, q2, hx, gL, c', c'']) fun _ => ?_ | refine W.regionD tm ld_specs_ok rfl (by conv => lhs; simp [q1, q2, hx, gL, c', c'']) (by conv => lhs; simp) (by kernel_rfl) fun _ => ?_)
            first | exact Ret.dataR rfl (by conv => lhs; simp) (by conv => lhs; simp) (by first | rfl | simp [inlT, inlV]) | fail "no return here"
      · have hlt : k < loads.length := by omega
        obtain ⟨x, hx⟩ := get_lt hlt
        have q1 : (k : Int) < loads.length := by omega
        have q2 : ¬ loads.length ≤ k := by omega
        have hw := w64_succ hlt (capX (by omega))
        by_cases e1 : 1125899906842624 < x.avg
        · repeat (first | refine N.seq ?_ | refine N.blk ?_ | refine W.seq rfl ?_ | refine W.block rfl ?_ | refine W.skip rfl ?_ | refine W.ret rfl ?_ | refine N.nil ?_ | refine N.loop ?_ | refine W.exit rfl ?_ | refine X.seq ?_ | refine X.loop ?_ | refine X.hit ?_ | refine X.pass (by decide) ?_ | refine W.condT rfl (by rfl) ?_ | refine W.condF rfl (by rfl) ?_ | refine W.region tm ld_specs_ok rfl (by conv => lhs; simp [q1, q2, hx, Ld.cells, e1]) fun _ => ?_ | refine W.regionD tm ld_specs_ok rfl (by conv => lhs; simp [q1, q2, hx, Ld.cells, e1]) (by conv => lhs; simp) (by kernel_rfl) fun _ => ?_)
          first | exact Ret.dataR rfl (by conv => lhs; simp) (by conv => lhs; simp) (by first | rfl | simp [inlT, inlV]) | fail "no return here"
        · by_cases e2 : x.avg < -1125899906842624
          · repeat (first | refine N.seq ?_ | refine N.blk ?_ | refine W.seq rfl ?_ | refine W.block rfl ?_ | refine W.skip rfl ?_ | refine W.ret rfl ?_ | refine N.nil ?_ | refine N.loop ?_ | refine W.exit rfl ?_ | refine X.seq ?_ | refine X.loop ?_ | refine X.hit ?_ | refine X.pass (by decide) ?_ | refine W.condT rfl (by rfl) ?_ | refine W.condF rfl (by rfl) ?_ | refine W.region tm ld_specs_ok rfl (by conv => lhs; simp [q1, q2, hx, Ld.cells, e1, e2]) fun _ => ?_ | refine W.regionD tm ld_specs_ok rfl (by conv => lhs; simp [q1, q2, hx, Ld.cells, e1, e2]) (by conv => lhs; simp) (by kernel_rfl) fun _ => ?_)
            first | exact Ret.dataR rfl (by conv => lhs; simp) (by conv => lhs; simp) (by first | rfl | simp [inlT, inlV]) | fail "no return here"
          · by_cases e3 : 1125899906842624 < x.now
            · repeat (first | refine N.seq ?_ | refine N.blk ?_ | refine W.seq rfl ?_ | refine W.block rfl ?_ | refine W.skip rfl ?_ | refine W.ret rfl ?_ | refine N.nil ?_ | refine N.loop ?_ | refine W.exit rfl ?_ | refine X.seq ?_ | refine X.loop ?_ | refine X.hit ?_ | refine X.pass (by decide) ?_ | refine W.condT rfl (by rfl) ?_ | refine W.condF rfl (by rfl) ?_ | refine W.region tm ld_specs_ok rfl (by conv => lhs; simp [q1, q2, hx, Ld.cells, e1, e2, e3]) fun _ => ?_ | refine W.regionD tm ld_specs_ok rfl (by conv => lhs; simp [q1, q2, hx, Ld.cells, e1, e2, e3]) (by conv => lhs; simp) (by kernel_rfl) fun _ => ?_)
              first | exact Ret.dataR rfl (by conv => lhs; simp) (by conv => lhs; simp) (by first | rfl | simp [inlT, inlV]) | fail "no return here"
            · by_cases e4 : x.now < -1125899906842624
              · repeat (first | refine N.seq ?_ | refine N.blk ?_ | refine W.seq rfl ?_ | refine W.block rfl ?_ | refine W.skip rfl ?_ | refine W.ret rfl ?_ | refine N.nil ?_ | refine N.loop ?_ | refine W.exit rfl ?_ | refine X.seq ?_ | refine X.loop ?_ | refine X.hit ?_ | refine X.pass (by decide) ?_ | refine W.condT rfl (by rfl) ?_ | refine W.condF rfl (by rfl) ?_ | refine W.region tm ld_specs_ok rfl (by conv => lhs; simp [q1, q2, hx, Ld.cells, e1, e2, e3, e4]) fun _ => ?_ | refine W.regionD tm ld_specs_ok rfl (by conv => lhs; simp [q1, q2, hx, Ld.cells, e1, e2, e3, e4]) (by conv => lhs; simp) (by kernel_rfl) fun _ => ?_)
                first | exact Ret.dataR rfl (by conv => lhs; simp) (by conv => lhs; simp) (by first | rfl | simp [inlT, inlV]) | fail "no return here"
              · repeat (first | refine N.seq ?_ | refine N.blk ?_ | refine W.seq rfl ?_ | refine W.block rfl ?_ | refine W.skip rfl ?_ | refine W.ret rfl ?_ | refine N.nil ?_ | refine N.loop ?_ | refine W.exit rfl ?_ | refine X.seq ?_ | refine X.loop ?_ | refine X.hit ?_ | refine X.pass (by decide) ?_ | refine W.condT rfl (by rfl) ?_ | refine W.condF rfl (by rfl) ?_ | refine W.region tm ld_specs_ok rfl (by conv => lhs; simp [q1, q2, hx, Ld.cells, e1, e2, e3, e4, hw]) fun _ => ?_ | refine W.regionD tm ld_specs_ok rfl (by conv => lhs; simp [q1, q2, hx, Ld.cells, e1, e2, e3, e4, hw]) (by conv => lhs; simp) (by kernel_rfl) fun _ => ?_)
                exact ⟨⟨(k + 1, _), hlt, by simp [lk_st, h1]⟩, by dsimp only; omega, AS.le_of rfl ⟨rfl, rfl, rfl, rfl, rfl, rfl, rfl, rfl, trivial⟩ (fun _ => rfl)⟩
    · have c1' : ¬ (8 : Int) < raw.length := by omega
      have c2' : (8 : Int) < loads.length := by omega
      have c1'' : ¬ 8 < raw.length := by omega
      have c2'' : 8 < loads.length := by omega
      repeat (first | refine N.seq ?_ | refine N.blk ?_ | refine W.seq rfl ?_ | refine W.block rfl ?_ | refine W.skip rfl ?_ | refine W.ret rfl ?_ | refine N.nil ?_ | refine N.loop ?_ | refine W.exit rfl ?_ | refine X.seq ?_ | refine X.loop ?_ | refine X.hit ?_ | refine X.pass (by decide) ?_ | refine W.condT rfl (by rfl) ?_ | refine W.condF rfl (by rfl) ?_ | refine W.region tm ld_specs_ok rfl (by conv => lhs; simp [c1', c2', c1'', c2'', Tm.cells]) fun _ => ?_ | refine W.regionD tm ld_specs_ok rfl (by conv => lhs; simp [c1', c2', c1'', c2'', Tm.cells]) (by conv => lhs; simp) (by kernel_rfl) fun _ => ?_)
      first | exact Ret.dataR rfl (by conv => lhs; simp) (by conv => lhs; simp) (by first | rfl | simp [inlT, inlV]) | fail "no return here"
  · have c1' : (8 : Int) < raw.length := by omega
    have c1'' : 8 < raw.length := by omega
    repeat (first | refine N.seq ?_ | refine N.blk ?_ | refine W.seq rfl ?_ | refine W.block rfl ?_ | refine W.skip rfl ?_ | refine W.ret rfl ?_ | refine N.nil ?_ | refine N.loop ?_ | refine W.exit rfl ?_ | refine X.seq ?_ | refine X.loop ?_ | refine X.hit ?_ | refine X.pass (by decide) ?_ | refine W.condT rfl (by rfl) ?_ | refine W.condF rfl (by rfl) ?_ | refine W.region tm ld_specs_ok rfl (by conv => lhs; simp [c1', c1'', Tm.cells]) fun _ => ?_ | refine W.regionD tm ld_specs_ok rfl (by conv => lhs; simp [c1', c1'', Tm.cells]) (by conv => lhs; simp) (by kernel_rfl) fun _ => ?_)
    first | exact Ret.dataR rfl (by conv => lhs; simp) (by conv => lhs; simp) (by first | rfl | simp [inlT, inlV]) | fail "no return here"
noncomputable def decdS : SpecFn := mkS encDw fun _ => (.bool true, [])
theorem decd_ok : FnC Try.prog 3 decdS := by
  refine FnC.walk 3 (fn := Try.f3) Try.func3 rfl (by kernel_rfl) fun x => ?_
  obtain ⟨L, M, raw, loads, t, hL, hM, hr, hl, _⟩ := x
  change W _ (Ret _ _ (.bool true) []) _ _ ⟨172, [(0, .list 1 (L.map ic)), (1, .list 1 (M.map ic)), (2, .list 1 (raw.map gL)), (3, .list 3 (loads.map Ld.cells)), (4, .agg t.cells)], []⟩
  exact dec_walk (made2 L M) (isP_plP L) hr hl (placesS_eq L hL) (groupsS_eq M hM 1 (nds L) (plP L) (plR L).1 (isP_plP L) (by have := nds_len L; omega) (by have := plR_len L; omega))
end Go.Abs.Po
