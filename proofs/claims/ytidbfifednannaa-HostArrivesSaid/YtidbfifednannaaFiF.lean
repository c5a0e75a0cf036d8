/- What the calls of HostArrives come to. Conditions: none. -/
import Derived.Test.YtidbfifednannaaFiE
namespace Go.Abs.Fi
open Go Go.Proofs Go.Abs
set_option maxRecDepth 100000
set_option maxHeartbeats 4000000
attribute [local simp] runL stepA execA_eq skipA run_ret run_fail run_get run_put run_asm num lk st lk_st putA AS.ev ofValue ofFlat mkv splice fieldAddrA buildA fillA runF gdst pickA unOpA extractA resVs resV pack frzT inlT inlV frzV frzVs frzL frz1 newId AV.cellsOf AV.flat AV.flat2 specOf loadA_runR capA copyA copyTo srcA sliceCA slice3A appendZA extA AV.place lenCA clearA clearTo expG expB3 List.zipWith renL fF handB renB AV.ren backF backL idsOf freshIds refsL refsB AV.refs List.range List.range.loop placesA sliceRows rowsOf convertA sliceArrA sliceA bndA nilCheckA arrayAtA mmA lookupA keyOf keyOK findA keyEqA foundA makeMapA mapUpdateA appendA rowsA indexA partA fieldA retE2 frqT frqV frqVs frqL frq1 reachE blkRefs outE nodupE firstE seqO expB2 expF slice3A slice3C
theorem clone94_ok : FnC Try.prog 94 (cloneC 32 1 8) := by
  refine FnC.ofV 94 (fn := Try.f94) Try.func94 rfl (by kernel_rfl) fun args B r B' hS => ?_
  unfold cloneC at hS
  split at hS
  · simp only [Option.some.injEq, Prod.mk.injEq] at hS
    obtain ⟨rfl, rfl⟩ := hS
    refine ⟨by simp, ?_⟩
    change V _ (RetM _ _ 0 _ _) _ _ ⟨8, [(0, .nils)], []⟩
    repeat (first | refine NV.seq ?_ | refine NV.blk ?_ | refine V.seq rfl ?_ | refine V.block rfl ?_ | refine V.skip rfl ?_ | refine V.ret rfl ?_ | refine NV.nil ?_ | refine NV.loop ?_ | refine V.exit rfl ?_ | refine XV.seq ?_ | refine XV.loop ?_ | refine XV.hit ?_ | refine XV.pass (by decide) ?_ | refine V.condT rfl (by rfl) ?_ | refine V.condF rfl (by rfl) ?_ | refine V.region tm no_specs rfl (by conv => lhs; simp) fun _ => ?_ | refine V.regionD tm no_specs rfl (by conv => lhs; simp) (by conv => lhs; simp) (by kernel_rfl) fun _ => ?_)
    refine retM2_ok false [] [] ?_
    simp [retM2, movedOK, oldOK, frqT, frqV, frqVs, frqL, frq1, expG, expB3, renB, AV.ren, renL, List.range, List.range.loop, resVs, resV, pack, List.zipWith, List.idxOf?, List.findIdx?, List.findIdx?.go]
  · rename_i s rows
    split at hS
    · rename_i hc
      obtain ⟨rfl, h1, h1', h2⟩ := hc
      simp only [Option.some.injEq, Prod.mk.injEq] at hS
      obtain ⟨rfl, rfl⟩ := hS
      refine ⟨by simp, ?_⟩
      change V _ (RetM _ _ 0 _ _) _ _ ⟨8, [(0, .list 1 rows)], []⟩
      cases rows with
      | nil =>
        refine V.nilCase (t := 0) (s := 1) 0 rfl rfl ?_ ?_
        · repeat (first | refine NV.seq ?_ | refine NV.blk ?_ | refine V.seq rfl ?_ | refine V.block rfl ?_ | refine V.skip rfl ?_ | refine NV.nil ?_ | refine NV.loop ?_ | refine V.exit rfl ?_ | refine XV.seq ?_ | refine XV.loop ?_ | refine XV.hit ?_ | refine XV.pass (by decide) ?_ | refine V.condT rfl (by rfl) ?_ | refine V.condF rfl (by rfl) ?_ | refine V.region tm no_specs rfl (by conv => lhs; simp) fun _ => ?_ | refine V.regionD tm no_specs rfl (by conv => lhs; simp) (by conv => lhs; simp) (by kernel_rfl) fun _ => ?_)
          refine V.phantom (t := 2) 100 32 1 rfl rfl (by decide) ?_
          repeat (first | refine NV.seq ?_ | refine NV.blk ?_ | refine V.seq rfl ?_ | refine V.block rfl ?_ | refine V.skip rfl ?_ | refine V.ret rfl ?_ | refine NV.nil ?_ | refine NV.loop ?_ | refine V.exit rfl ?_ | refine XV.seq ?_ | refine XV.loop ?_ | refine XV.hit ?_ | refine XV.pass (by decide) ?_ | refine V.condT rfl (by rfl) ?_ | refine V.condF rfl (by rfl) ?_ | refine V.region tm no_specs rfl (by conv => lhs; simp) fun _ => ?_ | refine V.regionD tm no_specs rfl (by conv => lhs; simp) (by conv => lhs; simp) (by kernel_rfl) fun _ => ?_)
          simp only [List.length_nil, rowB]
          refine retM2_ok false [100] [0] ?_
          simp [retM2, movedOK, oldOK, frqT, frqV, frqVs, frqL, frq1, expG, expB3, renB, AV.ren, renL, List.range, List.range.loop, resVs, resV, pack, List.zipWith, List.idxOf?, List.findIdx?, List.findIdx?.go]
        · repeat (first | refine NV.seq ?_ | refine NV.blk ?_ | refine V.seq rfl ?_ | refine V.block rfl ?_ | refine V.skip rfl ?_ | refine V.ret rfl ?_ | refine NV.nil ?_ | refine NV.loop ?_ | refine V.exit rfl ?_ | refine XV.seq ?_ | refine XV.loop ?_ | refine XV.hit ?_ | refine XV.pass (by decide) ?_ | refine V.condT rfl (by rfl) ?_ | refine V.condF rfl (by rfl) ?_ | refine V.region tm no_specs rfl (by conv => lhs; simp) fun _ => ?_ | refine V.regionD tm no_specs rfl (by conv => lhs; simp) (by conv => lhs; simp) (by kernel_rfl) fun _ => ?_)
          simp only [List.length_nil, rowB]
          refine retM2_ok false [96] [0] ?_
          simp [retM2, movedOK, oldOK, frqT, frqV, frqVs, frqL, frq1, expG, expB3, renB, AV.ren, renL, List.range, List.range.loop, resVs, resV, pack, List.zipWith, List.idxOf?, List.findIdx?, List.findIdx?.go]
      | cons x rows =>
        simp only [List.length_cons] at h1 h2 h1'
        repeat (first | refine NV.seq ?_ | refine NV.blk ?_ | refine V.seq rfl ?_ | refine V.block rfl ?_ | refine V.skip rfl ?_ | refine V.ret rfl ?_ | refine NV.nil ?_ | refine NV.loop ?_ | refine V.exit rfl ?_ | refine XV.seq ?_ | refine XV.loop ?_ | refine XV.hit ?_ | refine XV.pass (by decide) ?_ | refine V.condT rfl (by rfl) ?_ | refine V.condF rfl (by rfl) ?_ | refine V.region tm no_specs rfl (by conv => lhs; simp [h1, h2, h1']) fun _ => ?_ | refine V.regionD tm no_specs rfl (by conv => lhs; simp [h1, h2, h1']) (by conv => lhs; simp) (by kernel_rfl) fun _ => ?_)
        simp only [List.length_cons, rowB]
        refine retM2_ok false [96] [0] ?_
        simp [retM2, movedOK, oldOK, frqT, frqV, frqVs, frqL, frq1, expG, expB3, renB, AV.ren, renL, List.range, List.range.loop, resVs, resV, pack, List.zipWith, List.idxOf?, List.findIdx?, List.findIdx?.go]
    · cases hS
  · rename_i len b
    split at hS
    · rename_i hc
      obtain ⟨hb, rfl, h1, h2⟩ := hc
      simp only [Option.some.injEq, Prod.mk.injEq] at hS
      obtain ⟨rfl, rfl⟩ := hS
      rw [okB_eq hb]
      generalize b.rows = rows at h1 h2 ⊢
      refine ⟨by simp, ?_⟩
      change V _ (RetM _ _ 1 _ _) _ _ ⟨8, [(0, .sl 0 0 0 rows.length)], [(0, { gen := 0, kind := 2, elem := 32, size := 1, inl := true, rows })]⟩
      cases rows with
      | nil =>
        refine V.slNil (t := 0) 1 rfl rfl rfl rfl ?_ ?_
        · repeat (first | refine NV.seq ?_ | refine NV.blk ?_ | refine V.seq rfl ?_ | refine V.block rfl ?_ | refine V.skip rfl ?_ | refine NV.nil ?_ | refine NV.loop ?_ | refine V.exit rfl ?_ | refine XV.seq ?_ | refine XV.loop ?_ | refine XV.hit ?_ | refine XV.pass (by decide) ?_ | refine V.condT rfl (by rfl) ?_ | refine V.condF rfl (by rfl) ?_ | refine V.region tm no_specs rfl (by conv => lhs; simp) fun _ => ?_ | refine V.regionD tm no_specs rfl (by conv => lhs; simp) (by conv => lhs; simp) (by kernel_rfl) fun _ => ?_)
          refine V.phantom (t := 2) 100 32 1 rfl rfl (by decide) ?_
          repeat (first | refine NV.seq ?_ | refine NV.blk ?_ | refine V.seq rfl ?_ | refine V.block rfl ?_ | refine V.skip rfl ?_ | refine V.ret rfl ?_ | refine NV.nil ?_ | refine NV.loop ?_ | refine V.exit rfl ?_ | refine XV.seq ?_ | refine XV.loop ?_ | refine XV.hit ?_ | refine XV.pass (by decide) ?_ | refine V.condT rfl (by rfl) ?_ | refine V.condF rfl (by rfl) ?_ | refine V.region tm no_specs rfl (by conv => lhs; simp) fun _ => ?_ | refine V.regionD tm no_specs rfl (by conv => lhs; simp) (by conv => lhs; simp) (by kernel_rfl) fun _ => ?_)
          simp only [List.length_nil, rowB]
          refine retM2_ok false [0, 100] [0, 0] ?_
          simp [retM2, movedOK, oldOK, frqT, frqV, frqVs, frqL, frq1, expG, expB3, renB, AV.ren, renL, List.range, List.range.loop, resVs, resV, pack, List.zipWith, List.idxOf?, List.findIdx?, List.findIdx?.go]
        · repeat (first | refine NV.seq ?_ | refine NV.blk ?_ | refine V.seq rfl ?_ | refine V.block rfl ?_ | refine V.skip rfl ?_ | refine V.ret rfl ?_ | refine NV.nil ?_ | refine NV.loop ?_ | refine V.exit rfl ?_ | refine XV.seq ?_ | refine XV.loop ?_ | refine XV.hit ?_ | refine XV.pass (by decide) ?_ | refine V.condT rfl (by rfl) ?_ | refine V.condF rfl (by rfl) ?_ | refine V.region tm no_specs rfl (by conv => lhs; simp) fun _ => ?_ | refine V.regionD tm no_specs rfl (by conv => lhs; simp) (by conv => lhs; simp) (by kernel_rfl) fun _ => ?_)
          simp only [List.length_nil, rowB]
          refine retM2_ok false [0, 96] [0, 0] ?_
          simp [retM2, movedOK, oldOK, frqT, frqV, frqVs, frqL, frq1, expG, expB3, renB, AV.ren, renL, List.range, List.range.loop, resVs, resV, pack, List.zipWith, List.idxOf?, List.findIdx?, List.findIdx?.go]
      | cons x rows =>
        simp only [List.length_cons] at h1 h2
        repeat (first | refine NV.seq ?_ | refine NV.blk ?_ | refine V.seq rfl ?_ | refine V.block rfl ?_ | refine V.skip rfl ?_ | refine V.ret rfl ?_ | refine NV.nil ?_ | refine NV.loop ?_ | refine V.exit rfl ?_ | refine XV.seq ?_ | refine XV.loop ?_ | refine XV.hit ?_ | refine XV.pass (by decide) ?_ | refine V.condT rfl (by rfl) ?_ | refine V.condF rfl (by rfl) ?_ | refine V.region tm no_specs rfl (by conv => lhs; simp [h1, h2]) fun _ => ?_ | refine V.regionD tm no_specs rfl (by conv => lhs; simp [h1, h2]) (by conv => lhs; simp) (by kernel_rfl) fun _ => ?_)
        simp only [List.length_cons, rowB]
        refine retM2_ok false [0, 96] [0, 0] ?_
        simp [retM2, movedOK, oldOK, frqT, frqV, frqVs, frqL, frq1, expG, expB3, renB, AV.ren, renL, List.range, List.range.loop, resVs, resV, pack, List.zipWith, List.idxOf?, List.findIdx?, List.findIdx?.go]
    · cases hS
  · cases hS
def baseH : NL SpecFn := [(118, cloneC 3 1 8), (94, cloneC 32 1 8)]
theorem baseH_ok : ∀ f S, lk baseH f = some S → FnC Try.prog f S := by
  intro f S h
  simp only [baseH, lk] at h
  split at h
  · rename_i e; subst e; cases h; exact clone118_ok
  split at h
  · rename_i e; subst e; cases h; exact clone94_ok
  · cases h
noncomputable def ph (f : FuncId) : SpecFn := pureS (runB Try.prog baseH 1000 40 f)
theorem ph_ok (f : FuncId) {fn : Func} {body : Code} (hf : Try.prog.funcs[f]? = some fn) (hb : fn.body = some body) : FnC Try.prog f (ph f) := FnC.pure (runB_ok baseH_ok tm tN 40 f hf hb)
def hv : Nat → AV
  | 0 => .nils
  | 1 => .list 1 []
  | _ => .list 1 [[.int .u64 9]]
def stc (n v : Nat) : List AV := [.int .i64 0, .int .i64 1, .int .i64 n, .int .i64 0, .int .i64 0, .int .i64 n, .nils, .int .i64 n, .nils, hv v, .int .u64 0, .int .u64 0, .nils, .int .i64 0, .bool false]
def hmsg (n t : Nat) : List AV := [.int .i64 n, .int .i64 t, .int .i64 20, .int .u64 0, .int .i64 0, .int .u64 0, .int .i64 0, .int .i64 0, .int .i64 0, .int .u64 0, .nils, .nils, .nils, .int .i64 0, .int .i64 0, .int .i64 0, .int .i64 0, .int .i64 0, .int .i64 0, .int .i64 0, .int .i64 0, .int .i64 0, .int .i64 0, .nils, .nils, .int .i64 0, .int .i64 0, .int .i64 0, .nils, .nils, .int .i64 0, .int .u64 0, .int .i64 0, .int .i64 0, .nils, .nils, .nils, .int .i64 0, .int .i64 0, .int .i64 0, .nils, .int .u64 0, .int .i64 0, .int .u64 9, .int .i64 0]
def nod : AV := .list 1 [[.int .i64 0], [.int .i64 1], [.int .i64 2], [.int .i64 3]]

theorem h20 : ph 20 [] [] = some (.bool true, []) := by kernel_rfl
theorem h22_0 : ph 22 [.int .i64 (0 : Nat), .int .i64 0, .int .i64 1] [] = some (.tup [.agg (stc 0 0), .int .i64 0], []) := by kernel_rfl
theorem h22_1 : ph 22 [.int .i64 (1 : Nat), .int .i64 0, .int .i64 1] [] = some (.tup [.agg (stc 1 0), .int .i64 0], []) := by kernel_rfl
theorem h22_2 : ph 22 [.int .i64 (2 : Nat), .int .i64 0, .int .i64 1] [] = some (.tup [.agg (stc 2 0), .int .i64 0], []) := by kernel_rfl
theorem h22_3 : ph 22 [.int .i64 (3 : Nat), .int .i64 0, .int .i64 1] [] = some (.tup [.agg (stc 3 0), .int .i64 0], []) := by kernel_rfl
theorem h23 : ph 23 [.agg (stc 0 0), .int .u64 9] [] = some (.agg (stc 0 2), []) := by kernel_rfl
theorem h27_0 (n : Nat) : ph 27 [.agg (stc n 0), .int .u64 9] [] = some (.bool false, []) := by kernel_rfl
theorem h27_1 (n : Nat) : ph 27 [.agg (stc n 1), .int .u64 9] [] = some (.bool false, []) := by kernel_rfl
theorem h27_2 (n : Nat) : ph 27 [.agg (stc n 2), .int .u64 9] [] = some (.bool true, []) := by kernel_rfl
theorem h25_0 (n t : Nat) : ph 25 [.agg (stc n 0), .int .u64 9, .int .i64 t, nod] [] = some (.tup [.agg (stc n 0), .nils], []) := by kernel_rfl
theorem h25_1 (n t : Nat) : ph 25 [.agg (stc n 1), .int .u64 9, .int .i64 t, nod] [] = some (.tup [.agg (stc n 1), .nils], []) := by kernel_rfl
theorem h25_00 : ph 25 [.agg (stc 0 2), .int .u64 9, .int .i64 (0 : Nat), nod] [] = some (.tup [.agg (stc 0 2), .nils], []) := by kernel_rfl
theorem h25_01 : ph 25 [.agg (stc 0 2), .int .u64 9, .int .i64 (1 : Nat), nod] [] = some (.tup [.agg (stc 0 1), .list 45 [hmsg 0 1]], []) := by kernel_rfl
theorem h25_02 : ph 25 [.agg (stc 0 2), .int .u64 9, .int .i64 (2 : Nat), nod] [] = some (.tup [.agg (stc 0 1), .list 45 [hmsg 0 2]], []) := by kernel_rfl
theorem h25_03 : ph 25 [.agg (stc 0 2), .int .u64 9, .int .i64 (3 : Nat), nod] [] = some (.tup [.agg (stc 0 1), .list 45 [hmsg 0 3]], []) := by kernel_rfl
theorem h25_10 : ph 25 [.agg (stc 1 2), .int .u64 9, .int .i64 (0 : Nat), nod] [] = some (.tup [.agg (stc 1 1), .list 45 [hmsg 1 0]], []) := by kernel_rfl
theorem h25_11 : ph 25 [.agg (stc 1 2), .int .u64 9, .int .i64 (1 : Nat), nod] [] = some (.tup [.agg (stc 1 2), .nils], []) := by kernel_rfl
theorem h25_12 : ph 25 [.agg (stc 1 2), .int .u64 9, .int .i64 (2 : Nat), nod] [] = some (.tup [.agg (stc 1 1), .list 45 [hmsg 1 2]], []) := by kernel_rfl
theorem h25_13 : ph 25 [.agg (stc 1 2), .int .u64 9, .int .i64 (3 : Nat), nod] [] = some (.tup [.agg (stc 1 1), .list 45 [hmsg 1 3]], []) := by kernel_rfl
theorem h25_20 : ph 25 [.agg (stc 2 2), .int .u64 9, .int .i64 (0 : Nat), nod] [] = some (.tup [.agg (stc 2 1), .list 45 [hmsg 2 0]], []) := by kernel_rfl
theorem h25_21 : ph 25 [.agg (stc 2 2), .int .u64 9, .int .i64 (1 : Nat), nod] [] = some (.tup [.agg (stc 2 1), .list 45 [hmsg 2 1]], []) := by kernel_rfl
theorem h25_22 : ph 25 [.agg (stc 2 2), .int .u64 9, .int .i64 (2 : Nat), nod] [] = some (.tup [.agg (stc 2 2), .nils], []) := by kernel_rfl
theorem h25_23 : ph 25 [.agg (stc 2 2), .int .u64 9, .int .i64 (3 : Nat), nod] [] = some (.tup [.agg (stc 2 1), .list 45 [hmsg 2 3]], []) := by kernel_rfl
theorem h25_30 : ph 25 [.agg (stc 3 2), .int .u64 9, .int .i64 (0 : Nat), nod] [] = some (.tup [.agg (stc 3 1), .list 45 [hmsg 3 0]], []) := by kernel_rfl
theorem h25_31 : ph 25 [.agg (stc 3 2), .int .u64 9, .int .i64 (1 : Nat), nod] [] = some (.tup [.agg (stc 3 1), .list 45 [hmsg 3 1]], []) := by kernel_rfl
theorem h25_32 : ph 25 [.agg (stc 3 2), .int .u64 9, .int .i64 (2 : Nat), nod] [] = some (.tup [.agg (stc 3 1), .list 45 [hmsg 3 2]], []) := by kernel_rfl
theorem h25_33 : ph 25 [.agg (stc 3 2), .int .u64 9, .int .i64 (3 : Nat), nod] [] = some (.tup [.agg (stc 3 2), .nils], []) := by kernel_rfl
theorem h26_000 : ph 26 [.agg (stc 0 0), .int .u64 9, .int .i64 (0 : Nat)] [] = some (.tup [.agg (stc 0 2), .nils], []) := by kernel_rfl
theorem h26_001 : ph 26 [.agg (stc 0 1), .int .u64 9, .int .i64 (0 : Nat)] [] = some (.tup [.agg (stc 0 2), .nils], []) := by kernel_rfl
theorem h26_010 : ph 26 [.agg (stc 0 0), .int .u64 9, .int .i64 (1 : Nat)] [] = some (.tup [.agg (stc 0 0), .list 45 [hmsg 0 1]], []) := by kernel_rfl
theorem h26_011 : ph 26 [.agg (stc 0 1), .int .u64 9, .int .i64 (1 : Nat)] [] = some (.tup [.agg (stc 0 1), .list 45 [hmsg 0 1]], []) := by kernel_rfl
theorem h26_012 : ph 26 [.agg (stc 0 2), .int .u64 9, .int .i64 (1 : Nat)] [] = some (.tup [.agg (stc 0 2), .list 45 [hmsg 0 1]], []) := by kernel_rfl
theorem h26_020 : ph 26 [.agg (stc 0 0), .int .u64 9, .int .i64 (2 : Nat)] [] = some (.tup [.agg (stc 0 0), .list 45 [hmsg 0 2]], []) := by kernel_rfl
theorem h26_021 : ph 26 [.agg (stc 0 1), .int .u64 9, .int .i64 (2 : Nat)] [] = some (.tup [.agg (stc 0 1), .list 45 [hmsg 0 2]], []) := by kernel_rfl
theorem h26_022 : ph 26 [.agg (stc 0 2), .int .u64 9, .int .i64 (2 : Nat)] [] = some (.tup [.agg (stc 0 2), .list 45 [hmsg 0 2]], []) := by kernel_rfl
theorem h26_030 : ph 26 [.agg (stc 0 0), .int .u64 9, .int .i64 (3 : Nat)] [] = some (.tup [.agg (stc 0 0), .list 45 [hmsg 0 3]], []) := by kernel_rfl
theorem h26_031 : ph 26 [.agg (stc 0 1), .int .u64 9, .int .i64 (3 : Nat)] [] = some (.tup [.agg (stc 0 1), .list 45 [hmsg 0 3]], []) := by kernel_rfl
theorem h26_032 : ph 26 [.agg (stc 0 2), .int .u64 9, .int .i64 (3 : Nat)] [] = some (.tup [.agg (stc 0 2), .list 45 [hmsg 0 3]], []) := by kernel_rfl
theorem h26_100 : ph 26 [.agg (stc 1 0), .int .u64 9, .int .i64 (0 : Nat)] [] = some (.tup [.agg (stc 1 0), .list 45 [hmsg 1 0]], []) := by kernel_rfl
theorem h26_101 : ph 26 [.agg (stc 1 1), .int .u64 9, .int .i64 (0 : Nat)] [] = some (.tup [.agg (stc 1 1), .list 45 [hmsg 1 0]], []) := by kernel_rfl
theorem h26_102 : ph 26 [.agg (stc 1 2), .int .u64 9, .int .i64 (0 : Nat)] [] = some (.tup [.agg (stc 1 2), .list 45 [hmsg 1 0]], []) := by kernel_rfl
theorem h26_110 : ph 26 [.agg (stc 1 0), .int .u64 9, .int .i64 (1 : Nat)] [] = some (.tup [.agg (stc 1 2), .nils], []) := by kernel_rfl
theorem h26_111 : ph 26 [.agg (stc 1 1), .int .u64 9, .int .i64 (1 : Nat)] [] = some (.tup [.agg (stc 1 2), .nils], []) := by kernel_rfl
theorem h26_120 : ph 26 [.agg (stc 1 0), .int .u64 9, .int .i64 (2 : Nat)] [] = some (.tup [.agg (stc 1 0), .list 45 [hmsg 1 2]], []) := by kernel_rfl
theorem h26_121 : ph 26 [.agg (stc 1 1), .int .u64 9, .int .i64 (2 : Nat)] [] = some (.tup [.agg (stc 1 1), .list 45 [hmsg 1 2]], []) := by kernel_rfl
theorem h26_122 : ph 26 [.agg (stc 1 2), .int .u64 9, .int .i64 (2 : Nat)] [] = some (.tup [.agg (stc 1 2), .list 45 [hmsg 1 2]], []) := by kernel_rfl
theorem h26_130 : ph 26 [.agg (stc 1 0), .int .u64 9, .int .i64 (3 : Nat)] [] = some (.tup [.agg (stc 1 0), .list 45 [hmsg 1 3]], []) := by kernel_rfl
theorem h26_131 : ph 26 [.agg (stc 1 1), .int .u64 9, .int .i64 (3 : Nat)] [] = some (.tup [.agg (stc 1 1), .list 45 [hmsg 1 3]], []) := by kernel_rfl
theorem h26_132 : ph 26 [.agg (stc 1 2), .int .u64 9, .int .i64 (3 : Nat)] [] = some (.tup [.agg (stc 1 2), .list 45 [hmsg 1 3]], []) := by kernel_rfl
theorem h26_200 : ph 26 [.agg (stc 2 0), .int .u64 9, .int .i64 (0 : Nat)] [] = some (.tup [.agg (stc 2 0), .list 45 [hmsg 2 0]], []) := by kernel_rfl
theorem h26_201 : ph 26 [.agg (stc 2 1), .int .u64 9, .int .i64 (0 : Nat)] [] = some (.tup [.agg (stc 2 1), .list 45 [hmsg 2 0]], []) := by kernel_rfl
theorem h26_202 : ph 26 [.agg (stc 2 2), .int .u64 9, .int .i64 (0 : Nat)] [] = some (.tup [.agg (stc 2 2), .list 45 [hmsg 2 0]], []) := by kernel_rfl
theorem h26_210 : ph 26 [.agg (stc 2 0), .int .u64 9, .int .i64 (1 : Nat)] [] = some (.tup [.agg (stc 2 0), .list 45 [hmsg 2 1]], []) := by kernel_rfl
theorem h26_211 : ph 26 [.agg (stc 2 1), .int .u64 9, .int .i64 (1 : Nat)] [] = some (.tup [.agg (stc 2 1), .list 45 [hmsg 2 1]], []) := by kernel_rfl
theorem h26_212 : ph 26 [.agg (stc 2 2), .int .u64 9, .int .i64 (1 : Nat)] [] = some (.tup [.agg (stc 2 2), .list 45 [hmsg 2 1]], []) := by kernel_rfl
theorem h26_220 : ph 26 [.agg (stc 2 0), .int .u64 9, .int .i64 (2 : Nat)] [] = some (.tup [.agg (stc 2 2), .nils], []) := by kernel_rfl
theorem h26_221 : ph 26 [.agg (stc 2 1), .int .u64 9, .int .i64 (2 : Nat)] [] = some (.tup [.agg (stc 2 2), .nils], []) := by kernel_rfl
theorem h26_230 : ph 26 [.agg (stc 2 0), .int .u64 9, .int .i64 (3 : Nat)] [] = some (.tup [.agg (stc 2 0), .list 45 [hmsg 2 3]], []) := by kernel_rfl
theorem h26_231 : ph 26 [.agg (stc 2 1), .int .u64 9, .int .i64 (3 : Nat)] [] = some (.tup [.agg (stc 2 1), .list 45 [hmsg 2 3]], []) := by kernel_rfl
theorem h26_232 : ph 26 [.agg (stc 2 2), .int .u64 9, .int .i64 (3 : Nat)] [] = some (.tup [.agg (stc 2 2), .list 45 [hmsg 2 3]], []) := by kernel_rfl
theorem h26_300 : ph 26 [.agg (stc 3 0), .int .u64 9, .int .i64 (0 : Nat)] [] = some (.tup [.agg (stc 3 0), .list 45 [hmsg 3 0]], []) := by kernel_rfl
theorem h26_301 : ph 26 [.agg (stc 3 1), .int .u64 9, .int .i64 (0 : Nat)] [] = some (.tup [.agg (stc 3 1), .list 45 [hmsg 3 0]], []) := by kernel_rfl
theorem h26_302 : ph 26 [.agg (stc 3 2), .int .u64 9, .int .i64 (0 : Nat)] [] = some (.tup [.agg (stc 3 2), .list 45 [hmsg 3 0]], []) := by kernel_rfl
theorem h26_310 : ph 26 [.agg (stc 3 0), .int .u64 9, .int .i64 (1 : Nat)] [] = some (.tup [.agg (stc 3 0), .list 45 [hmsg 3 1]], []) := by kernel_rfl
theorem h26_311 : ph 26 [.agg (stc 3 1), .int .u64 9, .int .i64 (1 : Nat)] [] = some (.tup [.agg (stc 3 1), .list 45 [hmsg 3 1]], []) := by kernel_rfl
theorem h26_312 : ph 26 [.agg (stc 3 2), .int .u64 9, .int .i64 (1 : Nat)] [] = some (.tup [.agg (stc 3 2), .list 45 [hmsg 3 1]], []) := by kernel_rfl
theorem h26_320 : ph 26 [.agg (stc 3 0), .int .u64 9, .int .i64 (2 : Nat)] [] = some (.tup [.agg (stc 3 0), .list 45 [hmsg 3 2]], []) := by kernel_rfl
theorem h26_321 : ph 26 [.agg (stc 3 1), .int .u64 9, .int .i64 (2 : Nat)] [] = some (.tup [.agg (stc 3 1), .list 45 [hmsg 3 2]], []) := by kernel_rfl
theorem h26_322 : ph 26 [.agg (stc 3 2), .int .u64 9, .int .i64 (2 : Nat)] [] = some (.tup [.agg (stc 3 2), .list 45 [hmsg 3 2]], []) := by kernel_rfl
theorem h26_330 : ph 26 [.agg (stc 3 0), .int .u64 9, .int .i64 (3 : Nat)] [] = some (.tup [.agg (stc 3 2), .nils], []) := by kernel_rfl
theorem h26_331 : ph 26 [.agg (stc 3 1), .int .u64 9, .int .i64 (3 : Nat)] [] = some (.tup [.agg (stc 3 2), .nils], []) := by kernel_rfl
end Go.Abs.Fi
