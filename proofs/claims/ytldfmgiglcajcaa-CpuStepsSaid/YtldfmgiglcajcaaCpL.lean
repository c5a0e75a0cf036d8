/- What the small generators give. Conditions: none. -/
import Derived.Test.YtldfmgiglcajcaaCpK
namespace Go.Abs.Cp
open Go Go.Proofs Go.Abs
set_option maxRecDepth 100000
set_option maxHeartbeats 4000000
set_option linter.unusedSimpArgs false
set_option linter.unusedVariables false
theorem diceS_eq' (l : List UInt8) (n : Int) : diceS [.ptr 0 0 0 0, .int .i64 n] [{ gen := 0, kind := 2, elem := 56, size := 1, inl := false, rows := [[.list 1 (l.map byte)]] }] =
    some (.int .i64 (dn l n), [{ gen := 0, kind := 2, elem := 56, size := 1, inl := false, rows := [[.list 1 ((dl l n).map byte)]] }]) := diceS_eq l n
noncomputable def d_specs : NL Spec := [(25, ⟨3, diceS⟩)]
theorem d_specs_ok : ∀ p ∈ d_specs, FnC Try.prog p.1 p.2.fn := by
  simp only [d_specs, List.mem_cons, List.not_mem_nil, or_false]
  rintro p rfl
  exact dice_ok
attribute [local simp] runL stepA execA_eq skipA run_ret run_fail run_get run_put run_asm num lk st lk_st putA AS.ev ofValue ofFlat mkv splice fieldAddrA buildA fillA runF gdst pickA unOpA extractA resVs resV pack frzT inlT inlV frzV frzVs frzL frz1 newId AV.cellsOf AV.flat AV.flat2 specOf loadA_runR renL fF handB renB AV.ren backF backL idsOf freshIds refsL refsB AV.refs List.range List.range.loop placesA sliceRows rowsOf convertA sliceArrA sliceA bndA nilCheckA arrayAtA mmA lookupA keyOf keyOK findA keyEqA foundA makeMapA mapUpdateA appendA rowsA indexA partA fieldA retE2 frqT frqV frqVs frqL frq1 reachE blkRefs outE nodupE firstE seqO expB2 expF callB gather refsL AV.refs fF handB renL freshIds getGens idsOf putsA backL backF renB AV.ren List.range List.range.loop diceS_eq' d_specs ts3 ta3 tz3 ts60 ta60 tu60 buildSliceA sliceRows rowsOf
def encE (l : List UInt8) : List AV × List ABlk := ([.ptr 0 0 0 0], [diceB l])
theorem encE_inj {β : Type} {f : List UInt8 → β} : ∀ x y, encE x = encE y → f x = f y := fun x y h => by
  simp only [encE, Prod.mk.injEq, List.cons.injEq, true_and, and_true] at h
  rw [diceB_inj h]
noncomputable def regDS : SpecFn := mkS2 encE fun l => (.int .i64 (dn l 8), [diceB (dl l 8)])
theorem regDS_eq (l : List UInt8) : regDS [.ptr 0 0 0 0] [diceB l] = some (.int .i64 (dn l 8), [diceB (dl l 8)]) := mkS2_eq (enc := encE) encE_inj l
theorem regD_ok : FnC Try.prog 27 regDS := by
  refine FnC.walkB 27 (fn := Try.f27) Try.func27 rfl (by kernel_rfl) (fun x b hb => by simp [encE] at hb; rw [hb]; rfl) fun l => ?_
  change W _ (RetB _ _ 1 _ _) _ _ ⟨5, [(0, .ptr 0 0 0 0)], [(0, diceB l)]⟩
  repeat (first | refine N.seq ?_ | refine N.blk ?_ | refine W.seq rfl ?_ | refine W.block rfl ?_ | refine W.skip rfl ?_ | refine W.ret rfl ?_ | refine N.nil ?_ | refine N.loop ?_ | refine W.exit rfl ?_ | refine X.seq ?_ | refine X.loop ?_ | refine X.hit ?_ | refine X.pass (by decide) ?_ | refine W.condT rfl (by rfl) ?_ | refine W.condF rfl (by rfl) ?_ | refine W.region tm d_specs_ok rfl (by conv => lhs; simp [diceB]) fun _ => ?_ | refine W.regionD tm d_specs_ok rfl (by conv => lhs; simp [diceB]) (by conv => lhs; simp) (by kernel_rfl) fun _ => ?_)
  simp only [diceB]
  first | exact retE2_ok false (by conv => lhs; simp [retE2, frqT, frqV, frqVs, frqL, frq1, reachE, blkRefs, outE, nodupE, firstE, seqO, expB2, expF, refsB, refsL, AV.refs, AV.ren, renL, renB, List.range, List.range.loop, resVs, resV, pack]) | fail "no return here"
def at0 (L : List Int) (n : Int) : Int := L.getD n.toNat 0
def words : List Int := [0, 1, 2, 3, 1, 0, 5, 16, -1, 200, 14, 9]
noncomputable def wordS : SpecFn := mkS2 encE fun l => (.int .i64 (at0 words (dn l 12)), [diceB (dl l 12)])
theorem wordS_eq (l : List UInt8) : wordS [.ptr 0 0 0 0] [diceB l] = some (.int .i64 (at0 words (dn l 12)), [diceB (dl l 12)]) := mkS2_eq (enc := encE) encE_inj l
theorem get_tab (L : List Int) {n : Int} (h : n.toNat < (L.map fun n => [AV.int .i64 n]).length) : (L.map fun n => [AV.int .i64 n])[n.toNat]'h = [.int .i64 (at0 L n)] := by
  have h' : n.toNat < L.length := by simpa using h
  rw [List.getElem_map]
  simp [at0, List.getD_eq_getElem?_getD, List.getElem?_eq_getElem h']
theorem word_ok : FnC Try.prog 28 wordS := by
  refine FnC.walkB 28 (fn := Try.f28) Try.func28 rfl (by kernel_rfl) (fun x b hb => by simp [encE] at hb; rw [hb]; rfl) fun l => ?_
  change W _ (RetB _ _ 1 _ _) _ _ ⟨8, [(0, .ptr 0 0 0 0)], [(0, diceB l)]⟩
  have h0 := dn_nonneg l 12
  have h1 := dn_lt l (n := 12) (by omega)
  have ht := @get_tab words (dn l 12)
  simp only [words, List.map_cons, List.map_nil] at ht
  repeat (first | refine N.seq ?_ | refine N.blk ?_ | refine W.seq rfl ?_ | refine W.block rfl ?_ | refine W.skip rfl ?_ | refine W.ret rfl ?_ | refine N.nil ?_ | refine N.loop ?_ | refine W.exit rfl ?_ | refine X.seq ?_ | refine X.loop ?_ | refine X.hit ?_ | refine X.pass (by decide) ?_ | refine W.condT rfl (by rfl) ?_ | refine W.condF rfl (by rfl) ?_ | refine W.region tm d_specs_ok rfl (by conv => lhs; simp [diceB, maxLen, h0, h1, ht]) fun _ => ?_ | refine W.regionD tm d_specs_ok rfl (by conv => lhs; simp [diceB, maxLen, h0, h1, ht]) (by conv => lhs; simp) (by kernel_rfl) fun _ => ?_)
  simp only [diceB, words]
  first | exact retE2_ok false (by conv => lhs; simp [retE2, frqT, frqV, frqVs, frqL, frq1, reachE, blkRefs, outE, nodupE, firstE, seqO, expB2, expF, refsB, refsL, AV.refs, AV.ren, renL, renB, List.range, List.range.loop, resVs, resV, pack]) | fail "no return here"
end Go.Abs.Cp
