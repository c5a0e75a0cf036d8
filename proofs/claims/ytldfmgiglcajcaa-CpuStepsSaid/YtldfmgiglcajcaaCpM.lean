/- What the generators of instructions give. Conditions: none. -/
import Derived.Test.YtldfmgiglcajcaaCpL
import Derived.Test.YtldfmgiglcajcaaCpTy
namespace Go.Abs.Cp
open Go Go.Proofs Go.Abs
set_option maxRecDepth 100000
set_option maxHeartbeats 4000000
set_option linter.unusedSimpArgs false
set_option linter.unusedVariables false
theorem diceB_eq (l : List UInt8) : diceB l = { gen := 0, kind := 2, elem := 56, size := 1, inl := false, rows := [[.list 1 (l.map byte)]] } := rfl
theorem regDS_eq' (l : List UInt8) : regDS [.ptr 0 0 0 0] [{ gen := 0, kind := 2, elem := 56, size := 1, inl := false, rows := [[.list 1 (l.map byte)]] }] =
    some (.int .i64 (dn l 8), [{ gen := 0, kind := 2, elem := 56, size := 1, inl := false, rows := [[.list 1 ((dl l 8).map byte)]] }]) := regDS_eq l
theorem wordS_eq' (l : List UInt8) : wordS [.ptr 0 0 0 0] [{ gen := 0, kind := 2, elem := 56, size := 1, inl := false, rows := [[.list 1 (l.map byte)]] }] =
    some (.int .i64 (at0 words (dn l 12)), [{ gen := 0, kind := 2, elem := 56, size := 1, inl := false, rows := [[.list 1 ((dl l 12).map byte)]] }]) := wordS_eq l
noncomputable def e_specs : NL Spec := [(25, ⟨3, diceS⟩), (27, ⟨3, regDS⟩), (28, ⟨3, wordS⟩)]
theorem e_specs_ok : ∀ p ∈ e_specs, FnC Try.prog p.1 p.2.fn := by
  simp only [e_specs, List.mem_cons, List.not_mem_nil, or_false]
  rintro p (rfl | rfl | rfl)
  · exact dice_ok
  · exact regD_ok
  · exact word_ok
/-! ### New dice -/
attribute [local simp] runL stepA execA_eq skipA run_ret run_fail run_get run_put run_asm num lk st lk_st putA AS.ev ofValue ofFlat mkv splice fieldAddrA buildA fillA runF gdst pickA unOpA extractA resVs resV pack frzT inlT inlV frzV frzVs frzL frz1 newId AV.cellsOf AV.flat AV.flat2 specOf loadA_runR renL fF handB renB AV.ren backF backL idsOf freshIds refsL refsB AV.refs List.range List.range.loop placesA sliceRows rowsOf convertA sliceArrA sliceA bndA nilCheckA arrayAtA mmA lookupA keyOf keyOK findA keyEqA foundA makeMapA mapUpdateA appendA rowsA indexA partA fieldA retE2 frqT frqV frqVs frqL frq1 reachE blkRefs outE nodupE firstE seqO expB2 expF ts29 ta29 ts5 ta5 ts3 ta3 sliceArrA sliceA bndA mmA placesA
def encNw (l : List UInt8) : List AV × List ABlk := ([.list 1 (l.map byte)], [])
theorem encNw_inj : ∀ x y : List UInt8, encNw x = encNw y → x = y := fun x y h => by
  simp only [encNw, Prod.mk.injEq, List.cons.injEq, AV.list.injEq, true_and, and_true] at h
  exact map_inj byte_inj h
noncomputable def newS : SpecFn := mkS2 encNw fun l => (.ptr 0 0 0 0, [diceB (l.take 400)])
theorem newS_eq (l : List UInt8) : newS [.list 1 (l.map byte)] [] = some (.ptr 0 0 0 0, [diceB (l.take 400)]) := mkS2_eq (enc := encNw) (fun x y h => by rw [encNw_inj x y h]) l
theorem new_ok : FnC Try.prog 10 newS := by
  refine FnC.walkB 10 (fn := Try.f10) Try.func10 rfl (by kernel_rfl) (fun x b hb => by simp [encNw] at hb) fun l => ?_
  change W _ (RetB _ _ 0 _ _) _ _ ⟨10, [(0, .list 1 (l.map byte))], []⟩
  by_cases h : (400 : Int) < l.length
  · have h2 : 400 ≤ l.length := by omega
    repeat (first | refine N.seq ?_ | refine N.blk ?_ | refine W.seq rfl ?_ | refine W.block rfl ?_ | refine W.skip rfl ?_ | refine W.ret rfl ?_ | refine N.nil ?_ | refine N.loop ?_ | refine W.exit rfl ?_ | refine X.seq ?_ | refine X.loop ?_ | refine X.hit ?_ | refine X.pass (by decide) ?_ | refine W.condT rfl (by rfl) ?_ | refine W.condF rfl (by rfl) ?_ | refine W.region tm no_specs rfl (by conv => lhs; simp [h, h2]) fun _ => ?_ | refine W.regionD tm no_specs rfl (by conv => lhs; simp [h, h2]) (by conv => lhs; simp) (by kernel_rfl) fun _ => ?_)
    simp only [diceB, List.map_take]
    first | exact retE2_ok false (by conv => lhs; simp [retE2, frqT, frqV, frqVs, frqL, frq1, reachE, blkRefs, outE, nodupE, firstE, seqO, expB2, expF, refsB, refsL, AV.refs, AV.ren, renL, renB, List.range, List.range.loop, resVs, resV, pack]) | fail "no return here"
  · have h2 : l.length ≤ 400 := by omega
    have h3 : List.take l.length (l.map byte) = l.map byte := List.take_of_length_le (by simp)
    repeat (first | refine N.seq ?_ | refine N.blk ?_ | refine W.seq rfl ?_ | refine W.block rfl ?_ | refine W.skip rfl ?_ | refine W.ret rfl ?_ | refine N.nil ?_ | refine N.loop ?_ | refine W.exit rfl ?_ | refine X.seq ?_ | refine X.loop ?_ | refine X.hit ?_ | refine X.pass (by decide) ?_ | refine W.condT rfl (by rfl) ?_ | refine W.condF rfl (by rfl) ?_ | refine W.region tm no_specs rfl (by conv => lhs; simp [h, h3]) fun _ => ?_ | refine W.regionD tm no_specs rfl (by conv => lhs; simp [h, h3]) (by conv => lhs; simp) (by kernel_rfl) fun _ => ?_)
    simp only [diceB, List.take_of_length_le h2]
    first | exact retE2_ok false (by conv => lhs; simp [retE2, frqT, frqV, frqVs, frqL, frq1, reachE, blkRefs, outE, nodupE, firstE, seqO, expB2, expF, refsB, refsL, AV.refs, AV.ren, renL, renB, List.range, List.range.loop, resVs, resV, pack]) | fail "no return here"
/-! ### Instructions -/
def encIn (x : List UInt8 × Int) : List AV × List ABlk := ([.ptr 0 0 0 0, .int .i64 x.2], [diceB x.1])
theorem encIn_inj : ∀ x y, encIn x = encIn y → x = y := fun x y h => by
  simp only [encIn, Prod.mk.injEq, List.cons.injEq, AV.int.injEq, true_and, and_true] at h
  rw [Prod.ext (diceB_inj h.2) h.1]
/-- An instruction that can be carried out, and the dice that are left. -/
def InsP (x : List UInt8 × Int) (r : AV × List ABlk) : Prop := ∃ (i : Ins) (l : List UInt8), able i = true ∧ r = (.agg i.cells, [diceB l])
theorem InsP_mk {P : Program} {fn : Func} {k : Nat} {σ : AS} {x : List UInt8 × Int} (o a b c : Int) (l : List UInt8) (ha : able ⟨o, a, b, c⟩ = true) (h : RetB P fn k (.agg [.int .i64 o, .int .i64 a, .int .i64 b, .int .i64 c]) [{ gen := 0, kind := 2, elem := 56, size := 1, inl := false, rows := [[.list 1 (l.map byte)]] }] σ) : ∃ r, InsP x r ∧ RetB P fn k r.1 r.2 σ :=
  ⟨_, ⟨⟨o, a, b, c⟩, l, ha, rfl⟩, h⟩
theorem reg_dn (l : List UInt8) : reg (dn l 8) = true := by
  have h0 := dn_nonneg l 8
  have h1 := dn_lt l (n := 8) (by omega)
  simp [reg, h0, h1]
attribute [local simp] runL stepA execA_eq skipA run_ret run_fail run_get run_put run_asm num lk st lk_st putA AS.ev ofValue ofFlat mkv splice fieldAddrA buildA fillA runF gdst pickA unOpA extractA resVs resV pack frzT inlT inlV frzV frzVs frzL frz1 newId AV.cellsOf AV.flat AV.flat2 specOf loadA_runR renL fF handB renB AV.ren backF backL idsOf freshIds refsL refsB AV.refs List.range List.range.loop placesA sliceRows rowsOf convertA sliceArrA sliceA bndA nilCheckA arrayAtA mmA lookupA keyOf keyOK findA keyEqA foundA makeMapA mapUpdateA appendA rowsA indexA partA fieldA retE2 frqT frqV frqVs frqL frq1 reachE blkRefs outE nodupE firstE seqO expB2 expF e_specs diceS_eq' regDS_eq' wordS_eq' reachE blkRefs outE nodupE firstE seqO expB2 expF
theorem instr_ok : ∃ S, FnC Try.prog 12 S ∧ ∀ x, ∃ r, S (encIn x).1 (encIn x).2 = some r ∧ InsP x r := by
  refine FnC.existsB 12 (fn := Try.f12) Try.func12 rfl (by kernel_rfl) (fun x b hb => by simp [encIn] at hb; rw [hb]; rfl) encIn_inj (fun x => ⟨_, ⟨⟨0, 0, 0, 0⟩, [], by decide, rfl⟩⟩) fun x => ?_
  obtain ⟨l, n⟩ := x
  change W _ (fun σ => ∃ r, InsP (l, n) r ∧ RetB _ _ 1 r.1 r.2 σ) _ _ ⟨71, [(0, .ptr 0 0 0 0), (1, .int .i64 n)], [(0, diceB l)]⟩
  have h0 := dn_nonneg (dl l 8) 10
  have h1 := dn_lt (dl l 8) (n := 10) (by omega)
  generalize hd : dn (dl l 8) 10 = d at h0 h1
  obtain ⟨m, rfl⟩ : ∃ m : Nat, (m : Int) = d := ⟨d.toNat, by omega⟩
  have hm : m < 10 := by omega
  match m, hm with
  | 0, hm =>
    repeat (first | refine N.seq ?_ | refine N.blk ?_ | refine W.seq rfl ?_ | refine W.block rfl ?_ | refine W.skip rfl ?_ | refine W.ret rfl ?_ | refine N.nil ?_ | refine N.loop ?_ | refine W.exit rfl ?_ | refine X.seq ?_ | refine X.loop ?_ | refine X.hit ?_ | refine X.pass (by decide) ?_ | refine W.condT rfl (by rfl) ?_ | refine W.condF rfl (by rfl) ?_ | refine W.region tm e_specs_ok rfl (by conv => lhs; simp [diceB, hd]) fun _ => ?_ | refine W.regionD tm e_specs_ok rfl (by conv => lhs; simp [diceB, hd]) (by conv => lhs; simp) (by kernel_rfl) fun _ => ?_)
    refine InsP_mk _ _ _ _ _ ?_ (retE2_ok false (by conv => lhs; simp [retE2, frqT]))
    decide
  | 1, hm =>
    repeat (first | refine N.seq ?_ | refine N.blk ?_ | refine W.seq rfl ?_ | refine W.block rfl ?_ | refine W.skip rfl ?_ | refine W.ret rfl ?_ | refine N.nil ?_ | refine N.loop ?_ | refine W.exit rfl ?_ | refine X.seq ?_ | refine X.loop ?_ | refine X.hit ?_ | refine X.pass (by decide) ?_ | refine W.condT rfl (by rfl) ?_ | refine W.condF rfl (by rfl) ?_ | refine W.region tm e_specs_ok rfl (by conv => lhs; simp [diceB, hd]) fun _ => ?_ | refine W.regionD tm e_specs_ok rfl (by conv => lhs; simp [diceB, hd]) (by conv => lhs; simp) (by kernel_rfl) fun _ => ?_)
    refine InsP_mk _ _ _ _ _ ?_ (retE2_ok false (by conv => lhs; simp [retE2, frqT]))
    simp [able, reg_dn]
  | 2, hm =>
    have c0 := dn_nonneg (dl (dl l 8) 10) 5
    have c1 := dn_lt (dl (dl l 8) 10) (n := 5) (by omega)
    generalize hc : dn (dl (dl l 8) 10) 5 = c at c0 c1
    have wc : IntKind.i64.wrap (3 + c) = 3 + c := w64 (by omega) (by omega)
    repeat (first | refine N.seq ?_ | refine N.blk ?_ | refine W.seq rfl ?_ | refine W.block rfl ?_ | refine W.skip rfl ?_ | refine W.ret rfl ?_ | refine N.nil ?_ | refine N.loop ?_ | refine W.exit rfl ?_ | refine X.seq ?_ | refine X.loop ?_ | refine X.hit ?_ | refine X.pass (by decide) ?_ | refine W.condT rfl (by rfl) ?_ | refine W.condF rfl (by rfl) ?_ | refine W.region tm e_specs_ok rfl (by conv => lhs; simp [diceB, hd, hc, wc]) fun _ => ?_ | refine W.regionD tm e_specs_ok rfl (by conv => lhs; simp [diceB, hd, hc, wc]) (by conv => lhs; simp) (by kernel_rfl) fun _ => ?_)
    refine InsP_mk _ _ _ _ _ ?_ (retE2_ok false (by conv => lhs; simp [retE2, frqT]))
    have : c = 0 ∨ c = 1 ∨ c = 2 ∨ c = 3 ∨ c = 4 := by omega
    rcases this with rfl | rfl | rfl | rfl | rfl <;> simp [able, reg_dn]
  | 3, hm =>
    repeat (first | refine N.seq ?_ | refine N.blk ?_ | refine W.seq rfl ?_ | refine W.block rfl ?_ | refine W.skip rfl ?_ | refine W.ret rfl ?_ | refine N.nil ?_ | refine N.loop ?_ | refine W.exit rfl ?_ | refine X.seq ?_ | refine X.loop ?_ | refine X.hit ?_ | refine X.pass (by decide) ?_ | refine W.condT rfl (by rfl) ?_ | refine W.condF rfl (by rfl) ?_ | refine W.region tm e_specs_ok rfl (by conv => lhs; simp [diceB, hd]) fun _ => ?_ | refine W.regionD tm e_specs_ok rfl (by conv => lhs; simp [diceB, hd]) (by conv => lhs; simp) (by kernel_rfl) fun _ => ?_)
    refine InsP_mk _ _ _ _ _ ?_ (retE2_ok false (by conv => lhs; simp [retE2, frqT]))
    simp [able, reg_dn]
  | 4, hm =>
    repeat (first | refine N.seq ?_ | refine N.blk ?_ | refine W.seq rfl ?_ | refine W.block rfl ?_ | refine W.skip rfl ?_ | refine W.ret rfl ?_ | refine N.nil ?_ | refine N.loop ?_ | refine W.exit rfl ?_ | refine X.seq ?_ | refine X.loop ?_ | refine X.hit ?_ | refine X.pass (by decide) ?_ | refine W.condT rfl (by rfl) ?_ | refine W.condF rfl (by rfl) ?_ | refine W.region tm e_specs_ok rfl (by conv => lhs; simp [diceB, hd]) fun _ => ?_ | refine W.regionD tm e_specs_ok rfl (by conv => lhs; simp [diceB, hd]) (by conv => lhs; simp) (by kernel_rfl) fun _ => ?_)
    refine InsP_mk _ _ _ _ _ ?_ (retE2_ok false (by conv => lhs; simp [retE2, frqT]))
    simp [able, reg_dn]
  | 5, hm =>
    repeat (first | refine N.seq ?_ | refine N.blk ?_ | refine W.seq rfl ?_ | refine W.block rfl ?_ | refine W.skip rfl ?_ | refine W.ret rfl ?_ | refine N.nil ?_ | refine N.loop ?_ | refine W.exit rfl ?_ | refine X.seq ?_ | refine X.loop ?_ | refine X.hit ?_ | refine X.pass (by decide) ?_ | refine W.condT rfl (by rfl) ?_ | refine W.condF rfl (by rfl) ?_ | refine W.region tm e_specs_ok rfl (by conv => lhs; simp [diceB, hd]) fun _ => ?_ | refine W.regionD tm e_specs_ok rfl (by conv => lhs; simp [diceB, hd]) (by conv => lhs; simp) (by kernel_rfl) fun _ => ?_)
    refine InsP_mk _ _ _ _ _ ?_ (retE2_ok false (by conv => lhs; simp [retE2, frqT]))
    simp [able, reg_dn]
  | 6, hm =>
    repeat (first | refine N.seq ?_ | refine N.blk ?_ | refine W.seq rfl ?_ | refine W.block rfl ?_ | refine W.skip rfl ?_ | refine W.ret rfl ?_ | refine N.nil ?_ | refine N.loop ?_ | refine W.exit rfl ?_ | refine X.seq ?_ | refine X.loop ?_ | refine X.hit ?_ | refine X.pass (by decide) ?_ | refine W.condT rfl (by rfl) ?_ | refine W.condF rfl (by rfl) ?_ | refine W.region tm e_specs_ok rfl (by conv => lhs; simp [diceB, hd]) fun _ => ?_ | refine W.regionD tm e_specs_ok rfl (by conv => lhs; simp [diceB, hd]) (by conv => lhs; simp) (by kernel_rfl) fun _ => ?_)
    refine InsP_mk _ _ _ _ _ ?_ (retE2_ok false (by conv => lhs; simp [retE2, frqT]))
    simp [able, reg_dn]
  | 7, hm =>
    have c0 := dn_nonneg (dl (dl l 8) 10) 24
    have c1 := dn_lt (dl (dl l 8) 10) (n := 24) (by omega)
    generalize hc : dn (dl (dl l 8) 10) 24 = c at c0 c1
    repeat (first | refine N.seq ?_ | refine N.blk ?_ | refine W.seq rfl ?_ | refine W.block rfl ?_ | refine W.skip rfl ?_ | refine W.ret rfl ?_ | refine N.nil ?_ | refine N.loop ?_ | refine W.exit rfl ?_ | refine X.seq ?_ | refine X.loop ?_ | refine X.hit ?_ | refine X.pass (by decide) ?_ | refine W.condT rfl (by rfl) ?_ | refine W.condF rfl (by rfl) ?_ | refine W.region tm e_specs_ok rfl (by conv => lhs; simp [diceB, hd, hc]) fun _ => ?_ | refine W.regionD tm e_specs_ok rfl (by conv => lhs; simp [diceB, hd, hc]) (by conv => lhs; simp) (by kernel_rfl) fun _ => ?_)
    refine InsP_mk _ _ _ _ _ ?_ (retE2_ok false (by conv => lhs; simp [retE2, frqT]))
    simp [able, reg_dn]
  | 8, hm =>
    repeat (first | refine N.seq ?_ | refine N.blk ?_ | refine W.seq rfl ?_ | refine W.block rfl ?_ | refine W.skip rfl ?_ | refine W.ret rfl ?_ | refine N.nil ?_ | refine N.loop ?_ | refine W.exit rfl ?_ | refine X.seq ?_ | refine X.loop ?_ | refine X.hit ?_ | refine X.pass (by decide) ?_ | refine W.condT rfl (by rfl) ?_ | refine W.condF rfl (by rfl) ?_ | refine W.region tm e_specs_ok rfl (by conv => lhs; simp [diceB, hd]) fun _ => ?_ | refine W.regionD tm e_specs_ok rfl (by conv => lhs; simp [diceB, hd]) (by conv => lhs; simp) (by kernel_rfl) fun _ => ?_)
    refine InsP_mk _ _ _ _ _ ?_ (retE2_ok false (by conv => lhs; simp [retE2, frqT]))
    simp [able, reg_dn]
  | 9, hm =>
    repeat (first | refine N.seq ?_ | refine N.blk ?_ | refine W.seq rfl ?_ | refine W.block rfl ?_ | refine W.skip rfl ?_ | refine W.ret rfl ?_ | refine N.nil ?_ | refine N.loop ?_ | refine W.exit rfl ?_ | refine X.seq ?_ | refine X.loop ?_ | refine X.hit ?_ | refine X.pass (by decide) ?_ | refine W.condT rfl (by rfl) ?_ | refine W.condF rfl (by rfl) ?_ | refine W.region tm e_specs_ok rfl (by conv => lhs; simp [diceB, hd]) fun _ => ?_ | refine W.regionD tm e_specs_ok rfl (by conv => lhs; simp [diceB, hd]) (by conv => lhs; simp) (by kernel_rfl) fun _ => ?_)
    refine InsP_mk _ _ _ _ _ ?_ (retE2_ok false (by conv => lhs; simp [retE2, frqT]))
    simp [able, reg_dn]
  | m + 10, hm => omega
end Go.Abs.Cp
