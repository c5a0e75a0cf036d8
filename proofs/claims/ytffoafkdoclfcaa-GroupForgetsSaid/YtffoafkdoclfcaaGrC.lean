/- Copies of talks, and putting one in. Conditions: none. -/
import Derived.Test.YtffoafkdoclfcaaGrB
namespace Go.Abs.Gr
open Go Go.Proofs Go.Abs
set_option maxRecDepth 100000
set_option maxHeartbeats 4000000
set_option linter.unusedSimpArgs false
set_option linter.unusedVariables false
theorem capL {n : Nat} (h : n ≤ 200) : n ≤ 9223372036854775807 := by omega
theorem capM {n : Nat} (h : n ≤ 200) : n ≤ 9223372036854775806 := by omega
theorem capB {n : Nat} (h : n ≤ 200) : n * 24 ≤ 140737488355328 := by omega
attribute [local simp] runL stepA execA_eq skipA run_ret run_fail run_get run_put run_asm num lk st lk_st putA AS.ev ofValue ofFlat mkv splice fieldAddrA buildA fillA runF gdst pickA unOpA extractA resVs resV pack frzT inlT inlV frzV frzVs frzL frz1 newId AV.cellsOf AV.flat AV.flat2 specOf loadA_runR capA copyA copyTo srcA sliceCA slice3A appendZA extA AV.place lenCA clearA clearTo expG expB3 List.zipWith renL fF handB renB AV.ren backF backL idsOf freshIds refsL refsB AV.refs List.range List.range.loop placesA sliceRows rowsOf convertA sliceArrA sliceA bndA nilCheckA arrayAtA mmA lookupA keyOf keyOK findA keyEqA foundA makeMapA mapUpdateA appendA rowsA indexA partA fieldA retE2 frqT frqV frqVs frqL frq1 reachE blkRefs outE nodupE firstE seqO expB2 expF 
/-! ### A copy -/
def Tks := { l : List Tk // l.length ≤ 200 }
def encT (l : Tks) : List AV × List ABlk := ([.list 3 (l.1.map Tk.cells)], [])
theorem encT_inj {β : Type} {f : Tks → β} : ∀ x y, encT x = encT y → f x = f y := fun x y h => by
  simp only [encT, Prod.mk.injEq, List.cons.injEq, AV.list.injEq, true_and, and_true] at h
  rw [Subtype.ext (map_inj Tk.inj h)]
noncomputable def cloneS : SpecFn := mkS2 encT fun l => (.sl 0 0 0 l.1.length, [tksB l.1])
theorem cloneS_eq (l : List Tk) (h : l.length ≤ 200) : cloneS [.list 3 (l.map Tk.cells)] [] = some (.sl 0 0 0 l.length, [tksB l]) := mkS2_eq (enc := encT) encT_inj ⟨l, h⟩
theorem clone_ok : FnC Try.prog 21 cloneS := by
  refine FnC.walkV 21 (fn := Try.f21) Try.func21 rfl (by kernel_rfl) (fun x b hb => by simp [encT] at hb) fun l => ?_
  obtain ⟨l, hl⟩ := l
  change V _ (RetB _ _ 0 _ _) _ _ ⟨8, [(0, .list 3 (l.map Tk.cells))], []⟩
  cases l with
  | nil =>
    change V _ _ _ _ ⟨8, [(0, .list 3 [])], []⟩
    refine V.nilCase (t := 0) (s := 3) 0 rfl rfl ?_ ?_
    · repeat (first | refine NV.seq ?_ | refine NV.blk ?_ | refine V.seq rfl ?_ | refine V.block rfl ?_ | refine V.skip rfl ?_ | refine NV.nil ?_ | refine NV.loop ?_ | refine V.exit rfl ?_ | refine XV.seq ?_ | refine XV.loop ?_ | refine XV.hit ?_ | refine XV.pass (by decide) ?_ | refine V.condT rfl (by rfl) ?_ | refine V.condF rfl (by rfl) ?_ | refine V.region tm no_specs rfl (by conv => lhs; simp) fun _ => ?_ | refine V.regionD tm no_specs rfl (by conv => lhs; simp) (by conv => lhs; simp) (by kernel_rfl) fun _ => ?_)
      refine V.phantom (t := 2) 100 27 3 rfl rfl (by decide) ?_
      repeat (first | refine NV.seq ?_ | refine NV.blk ?_ | refine V.seq rfl ?_ | refine V.block rfl ?_ | refine V.skip rfl ?_ | refine V.ret rfl ?_ | refine NV.nil ?_ | refine NV.loop ?_ | refine V.exit rfl ?_ | refine XV.seq ?_ | refine XV.loop ?_ | refine XV.hit ?_ | refine XV.pass (by decide) ?_ | refine V.condT rfl (by rfl) ?_ | refine V.condF rfl (by rfl) ?_ | refine V.region tm no_specs rfl (by conv => lhs; simp) fun _ => ?_ | refine V.regionD tm no_specs rfl (by conv => lhs; simp) (by conv => lhs; simp) (by kernel_rfl) fun _ => ?_)
      simp only [List.length_nil, tksB, List.map_nil]
      first | exact retE2_ok false (by conv => lhs; simp [retE2, frqT, frqV, frqVs, frqL, frq1, reachE, blkRefs, outE, nodupE, firstE, seqO, expB2, expF, refsB, refsL, AV.refs, AV.ren, renL, renB, List.range, List.range.loop, resVs, resV, pack]) | fail "no return here"
    · repeat (first | refine NV.seq ?_ | refine NV.blk ?_ | refine V.seq rfl ?_ | refine V.block rfl ?_ | refine V.skip rfl ?_ | refine V.ret rfl ?_ | refine NV.nil ?_ | refine NV.loop ?_ | refine V.exit rfl ?_ | refine XV.seq ?_ | refine XV.loop ?_ | refine XV.hit ?_ | refine XV.pass (by decide) ?_ | refine V.condT rfl (by rfl) ?_ | refine V.condF rfl (by rfl) ?_ | refine V.region tm no_specs rfl (by conv => lhs; simp) fun _ => ?_ | refine V.regionD tm no_specs rfl (by conv => lhs; simp) (by conv => lhs; simp) (by kernel_rfl) fun _ => ?_)
      simp only [List.length_nil, tksB, List.map_nil]
      first | exact retE2_ok false (by conv => lhs; simp [retE2, frqT, frqV, frqVs, frqL, frq1, reachE, blkRefs, outE, nodupE, firstE, seqO, expB2, expF, refsB, refsL, AV.refs, AV.ren, renL, renB, List.range, List.range.loop, resVs, resV, pack]) | fail "no return here"
  | cons x r =>
    have hl' : r.length + 1 ≤ 200 := hl
    repeat (first | refine NV.seq ?_ | refine NV.blk ?_ | refine V.seq rfl ?_ | refine V.block rfl ?_ | refine V.skip rfl ?_ | refine V.ret rfl ?_ | refine NV.nil ?_ | refine NV.loop ?_ | refine V.exit rfl ?_ | refine XV.seq ?_ | refine XV.loop ?_ | refine XV.hit ?_ | refine XV.pass (by decide) ?_ | refine V.condT rfl (by rfl) ?_ | refine V.condF rfl (by rfl) ?_ | refine V.region tm no_specs rfl (by conv => lhs; simp [capL hl', capB hl', maxLen]) fun _ => ?_ | refine V.regionD tm no_specs rfl (by conv => lhs; simp [capL hl', capB hl', maxLen]) (by conv => lhs; simp) (by kernel_rfl) fun _ => ?_)
    simp only [tksB, List.length_cons, List.map_cons]
    first | exact retE2_ok false (by conv => lhs; simp [retE2, frqT, frqV, frqVs, frqL, frq1, reachE, blkRefs, outE, nodupE, firstE, seqO, expB2, expF, refsB, refsL, AV.refs, AV.ren, renL, renB, List.range, List.range.loop, resVs, resV, pack]) | fail "no return here"
end Go.Abs.Gr
