/- Copies of objects. Conditions: none. -/
import Derived.Test.YtlakgienobmpbaaGreatNz1
namespace Go.Abs.Nz
open Go Go.Proofs Go.Abs
set_option maxRecDepth 100000
set_option maxHeartbeats 4000000
set_option linter.unusedSimpArgs false
set_option linter.unusedVariables false
theorem tm : Tryz.prog.follows .mixedOrders = true := by kernel_rfl
attribute [local simp] slice3A slice3C instA
theorem clone98_ok : FnC Tryz.prog 98 (cloneC 2 1 8) := by
  refine FnC.ofV 98 (fn := Tryz.f98) Tryz.func98 rfl (by kernel_rfl) fun args B r B' hS => ?_
  unfold cloneC at hS
  split at hS
  · simp only [Option.some.injEq, Prod.mk.injEq] at hS
    obtain ⟨rfl, rfl⟩ := hS
    refine ⟨by simp, ?_⟩
    change V _ (RetM _ _ 0 _ _) _ _ ⟨8, [(0, .nils)], []⟩
    repeat (first | refine NV.seq ?_ | refine NV.blk ?_ | refine V.seq rfl ?_ | refine V.block rfl ?_ | refine V.skip rfl ?_ | refine V.ret rfl ?_ | refine NV.nil ?_ | refine NV.loop ?_ | refine V.exit rfl ?_ | refine XV.seq ?_ | refine XV.loop ?_ | refine XV.hit ?_ | refine XV.pass (by decide) ?_ | refine V.condT rfl (by rfl) ?_ | refine V.condF rfl (by rfl) ?_ | refine V.region tm no_specs rfl (by conv => lhs; simp) fun _ => ?_ | refine V.regionD tm no_specs rfl (by conv => lhs; simp) (by conv => lhs; simp) (by kernel_rfl) fun _ => ?_)
    refine retM2_ok false [] [] ?_
    simp [retM2, movedOK, oldOK, frqT, frqV, frqVs, frqL, frq1, expG, expB3, renB, AV.ren, renL, List.range, List.range.loop, resVs, resV, pack, List.zipWith, List.idxOf?, List.findIdx?, List.findIdx?.go]
  · rename_i s rows
    split at hS
    · rename_i hc
      obtain ⟨rfl, h1, h1', h2⟩ := hc
      simp only [Option.some.injEq, Prod.mk.injEq] at hS
      obtain ⟨rfl, rfl⟩ := hS
      refine ⟨by simp, ?_⟩
      change V _ (RetM _ _ 0 _ _) _ _ ⟨8, [(0, .list 1 rows)], []⟩
      cases rows with
      | nil =>
        refine V.nilCase (t := 0) (s := 1) 0 rfl rfl ?_ ?_
        · repeat (first | refine NV.seq ?_ | refine NV.blk ?_ | refine V.seq rfl ?_ | refine V.block rfl ?_ | refine V.skip rfl ?_ | refine NV.nil ?_ | refine NV.loop ?_ | refine V.exit rfl ?_ | refine XV.seq ?_ | refine XV.loop ?_ | refine XV.hit ?_ | refine XV.pass (by decide) ?_ | refine V.condT rfl (by rfl) ?_ | refine V.condF rfl (by rfl) ?_ | refine V.region tm no_specs rfl (by conv => lhs; simp) fun _ => ?_ | refine V.regionD tm no_specs rfl (by conv => lhs; simp) (by conv => lhs; simp) (by kernel_rfl) fun _ => ?_)
          refine V.phantom (t := 2) 100 2 1 rfl rfl (by decide) ?_
          repeat (first | refine NV.seq ?_ | refine NV.blk ?_ | refine V.seq rfl ?_ | refine V.block rfl ?_ | refine V.skip rfl ?_ | refine V.ret rfl ?_ | refine NV.nil ?_ | refine NV.loop ?_ | refine V.exit rfl ?_ | refine XV.seq ?_ | refine XV.loop ?_ | refine XV.hit ?_ | refine XV.pass (by decide) ?_ | refine V.condT rfl (by rfl) ?_ | refine V.condF rfl (by rfl) ?_ | refine V.region tm no_specs rfl (by conv => lhs; simp) fun _ => ?_ | refine V.regionD tm no_specs rfl (by conv => lhs; simp) (by conv => lhs; simp) (by kernel_rfl) fun _ => ?_)
          simp only [List.length_nil, rowB]
          refine retM2_ok false [100] [0] ?_
          simp [retM2, movedOK, oldOK, frqT, frqV, frqVs, frqL, frq1, expG, expB3, renB, AV.ren, renL, List.range, List.range.loop, resVs, resV, pack, List.zipWith, List.idxOf?, List.findIdx?, List.findIdx?.go]
        · repeat (first | refine NV.seq ?_ | refine NV.blk ?_ | refine V.seq rfl ?_ | refine V.block rfl ?_ | refine V.skip rfl ?_ | refine V.ret rfl ?_ | refine NV.nil ?_ | refine NV.loop ?_ | refine V.exit rfl ?_ | refine XV.seq ?_ | refine XV.loop ?_ | refine XV.hit ?_ | refine XV.pass (by decide) ?_ | refine V.condT rfl (by rfl) ?_ | refine V.condF rfl (by rfl) ?_ | refine V.region tm no_specs rfl (by conv => lhs; simp) fun _ => ?_ | refine V.regionD tm no_specs rfl (by conv => lhs; simp) (by conv => lhs; simp) (by kernel_rfl) fun _ => ?_)
          simp only [List.length_nil, rowB]
          refine retM2_ok false [96] [0] ?_
          simp [retM2, movedOK, oldOK, frqT, frqV, frqVs, frqL, frq1, expG, expB3, renB, AV.ren, renL, List.range, List.range.loop, resVs, resV, pack, List.zipWith, List.idxOf?, List.findIdx?, List.findIdx?.go]
      | cons x rows =>
        simp only [List.length_cons] at h1 h2 h1'
        try simp only [Nat.mul_one] at h1
        repeat (first | refine NV.seq ?_ | refine NV.blk ?_ | refine V.seq rfl ?_ | refine V.block rfl ?_ | refine V.skip rfl ?_ | refine V.ret rfl ?_ | refine NV.nil ?_ | refine NV.loop ?_ | refine V.exit rfl ?_ | refine XV.seq ?_ | refine XV.loop ?_ | refine XV.hit ?_ | refine XV.pass (by decide) ?_ | refine V.condT rfl (by rfl) ?_ | refine V.condF rfl (by rfl) ?_ | refine V.region tm no_specs rfl (by conv => lhs; simp [h1, h2, h1']) fun _ => ?_ | refine V.regionD tm no_specs rfl (by conv => lhs; simp [h1, h2, h1']) (by conv => lhs; simp) (by kernel_rfl) fun _ => ?_)
        simp only [List.length_cons, rowB]
        refine retM2_ok false [96] [0] ?_
        simp [retM2, movedOK, oldOK, frqT, frqV, frqVs, frqL, frq1, expG, expB3, renB, AV.ren, renL, List.range, List.range.loop, resVs, resV, pack, List.zipWith, List.idxOf?, List.findIdx?, List.findIdx?.go]
    · cases hS
  · rename_i len b
    split at hS
    · rename_i hc
      obtain ⟨hb, rfl, h1, h2⟩ := hc
      simp only [Option.some.injEq, Prod.mk.injEq] at hS
      obtain ⟨rfl, rfl⟩ := hS
      rw [okB_eq hb]
      generalize b.rows = rows at h1 h2 ⊢
      refine ⟨by simp, ?_⟩
      change V _ (RetM _ _ 1 _ _) _ _ ⟨8, [(0, .sl 0 0 0 rows.length)], [(0, { gen := 0, kind := 2, elem := 2, size := 1, inl := true, rows })]⟩
      cases rows with
      | nil =>
        refine V.slNil (t := 0) 1 rfl rfl rfl rfl ?_ ?_
        · repeat (first | refine NV.seq ?_ | refine NV.blk ?_ | refine V.seq rfl ?_ | refine V.block rfl ?_ | refine V.skip rfl ?_ | refine NV.nil ?_ | refine NV.loop ?_ | refine V.exit rfl ?_ | refine XV.seq ?_ | refine XV.loop ?_ | refine XV.hit ?_ | refine XV.pass (by decide) ?_ | refine V.condT rfl (by rfl) ?_ | refine V.condF rfl (by rfl) ?_ | refine V.region tm no_specs rfl (by conv => lhs; simp) fun _ => ?_ | refine V.regionD tm no_specs rfl (by conv => lhs; simp) (by conv => lhs; simp) (by kernel_rfl) fun _ => ?_)
          refine V.phantom (t := 2) 100 2 1 rfl rfl (by decide) ?_
          repeat (first | refine NV.seq ?_ | refine NV.blk ?_ | refine V.seq rfl ?_ | refine V.block rfl ?_ | refine V.skip rfl ?_ | refine V.ret rfl ?_ | refine NV.nil ?_ | refine NV.loop ?_ | refine V.exit rfl ?_ | refine XV.seq ?_ | refine XV.loop ?_ | refine XV.hit ?_ | refine XV.pass (by decide) ?_ | refine V.condT rfl (by rfl) ?_ | refine V.condF rfl (by rfl) ?_ | refine V.region tm no_specs rfl (by conv => lhs; simp) fun _ => ?_ | refine V.regionD tm no_specs rfl (by conv => lhs; simp) (by conv => lhs; simp) (by kernel_rfl) fun _ => ?_)
          simp only [List.length_nil, rowB]
          refine retM2_ok false [0, 100] [0, 0] ?_
          simp [retM2, movedOK, oldOK, frqT, frqV, frqVs, frqL, frq1, expG, expB3, renB, AV.ren, renL, List.range, List.range.loop, resVs, resV, pack, List.zipWith, List.idxOf?, List.findIdx?, List.findIdx?.go]
        · repeat (first | refine NV.seq ?_ | refine NV.blk ?_ | refine V.seq rfl ?_ | refine V.block rfl ?_ | refine V.skip rfl ?_ | refine V.ret rfl ?_ | refine NV.nil ?_ | refine NV.loop ?_ | refine V.exit rfl ?_ | refine XV.seq ?_ | refine XV.loop ?_ | refine XV.hit ?_ | refine XV.pass (by decide) ?_ | refine V.condT rfl (by rfl) ?_ | refine V.condF rfl (by rfl) ?_ | refine V.region tm no_specs rfl (by conv => lhs; simp) fun _ => ?_ | refine V.regionD tm no_specs rfl (by conv => lhs; simp) (by conv => lhs; simp) (by kernel_rfl) fun _ => ?_)
          simp only [List.length_nil, rowB]
          refine retM2_ok false [0, 96] [0, 0] ?_
          simp [retM2, movedOK, oldOK, frqT, frqV, frqVs, frqL, frq1, expG, expB3, renB, AV.ren, renL, List.range, List.range.loop, resVs, resV, pack, List.zipWith, List.idxOf?, List.findIdx?, List.findIdx?.go]
      | cons x rows =>
        simp only [List.length_cons] at h1 h2
        try simp only [Nat.mul_one] at h1
        repeat (first | refine NV.seq ?_ | refine NV.blk ?_ | refine V.seq rfl ?_ | refine V.block rfl ?_ | refine V.skip rfl ?_ | refine V.ret rfl ?_ | refine NV.nil ?_ | refine NV.loop ?_ | refine V.exit rfl ?_ | refine XV.seq ?_ | refine XV.loop ?_ | refine XV.hit ?_ | refine XV.pass (by decide) ?_ | refine V.condT rfl (by rfl) ?_ | refine V.condF rfl (by rfl) ?_ | refine V.region tm no_specs rfl (by conv => lhs; simp [h1, h2]) fun _ => ?_ | refine V.regionD tm no_specs rfl (by conv => lhs; simp [h1, h2]) (by conv => lhs; simp) (by kernel_rfl) fun _ => ?_)
        simp only [List.length_cons, rowB]
        refine retM2_ok false [0, 96] [0, 0] ?_
        simp [retM2, movedOK, oldOK, frqT, frqV, frqVs, frqL, frq1, expG, expB3, renB, AV.ren, renL, List.range, List.range.loop, resVs, resV, pack, List.zipWith, List.idxOf?, List.findIdx?, List.findIdx?.go]
    · cases hS
  · cases hS
theorem clone99_ok : FnC Tryz.prog 99 (cloneC 5 1 1) := by
  refine FnC.ofV 99 (fn := Tryz.f99) Tryz.func99 rfl (by kernel_rfl) fun args B r B' hS => ?_
  unfold cloneC at hS
  split at hS
  · simp only [Option.some.injEq, Prod.mk.injEq] at hS
    obtain ⟨rfl, rfl⟩ := hS
    refine ⟨by simp, ?_⟩
    change V _ (RetM _ _ 0 _ _) _ _ ⟨8, [(0, .nils)], []⟩
    repeat (first | refine NV.seq ?_ | refine NV.blk ?_ | refine V.seq rfl ?_ | refine V.block rfl ?_ | refine V.skip rfl ?_ | refine V.ret rfl ?_ | refine NV.nil ?_ | refine NV.loop ?_ | refine V.exit rfl ?_ | refine XV.seq ?_ | refine XV.loop ?_ | refine XV.hit ?_ | refine XV.pass (by decide) ?_ | refine V.condT rfl (by rfl) ?_ | refine V.condF rfl (by rfl) ?_ | refine V.region tm no_specs rfl (by conv => lhs; simp) fun _ => ?_ | refine V.regionD tm no_specs rfl (by conv => lhs; simp) (by conv => lhs; simp) (by kernel_rfl) fun _ => ?_)
    refine retM2_ok false [] [] ?_
    simp [retM2, movedOK, oldOK, frqT, frqV, frqVs, frqL, frq1, expG, expB3, renB, AV.ren, renL, List.range, List.range.loop, resVs, resV, pack, List.zipWith, List.idxOf?, List.findIdx?, List.findIdx?.go]
  · rename_i s rows
    split at hS
    · rename_i hc
      obtain ⟨rfl, h1, h1', h2⟩ := hc
      simp only [Option.some.injEq, Prod.mk.injEq] at hS
      obtain ⟨rfl, rfl⟩ := hS
      refine ⟨by simp, ?_⟩
      change V _ (RetM _ _ 0 _ _) _ _ ⟨8, [(0, .list 1 rows)], []⟩
      cases rows with
      | nil =>
        refine V.nilCase (t := 0) (s := 1) 0 rfl rfl ?_ ?_
        · repeat (first | refine NV.seq ?_ | refine NV.blk ?_ | refine V.seq rfl ?_ | refine V.block rfl ?_ | refine V.skip rfl ?_ | refine NV.nil ?_ | refine NV.loop ?_ | refine V.exit rfl ?_ | refine XV.seq ?_ | refine XV.loop ?_ | refine XV.hit ?_ | refine XV.pass (by decide) ?_ | refine V.condT rfl (by rfl) ?_ | refine V.condF rfl (by rfl) ?_ | refine V.region tm no_specs rfl (by conv => lhs; simp) fun _ => ?_ | refine V.regionD tm no_specs rfl (by conv => lhs; simp) (by conv => lhs; simp) (by kernel_rfl) fun _ => ?_)
          refine V.phantom (t := 2) 100 5 1 rfl rfl (by decide) ?_
          repeat (first | refine NV.seq ?_ | refine NV.blk ?_ | refine V.seq rfl ?_ | refine V.block rfl ?_ | refine V.skip rfl ?_ | refine V.ret rfl ?_ | refine NV.nil ?_ | refine NV.loop ?_ | refine V.exit rfl ?_ | refine XV.seq ?_ | refine XV.loop ?_ | refine XV.hit ?_ | refine XV.pass (by decide) ?_ | refine V.condT rfl (by rfl) ?_ | refine V.condF rfl (by rfl) ?_ | refine V.region tm no_specs rfl (by conv => lhs; simp) fun _ => ?_ | refine V.regionD tm no_specs rfl (by conv => lhs; simp) (by conv => lhs; simp) (by kernel_rfl) fun _ => ?_)
          simp only [List.length_nil, rowB]
          refine retM2_ok false [100] [0] ?_
          simp [retM2, movedOK, oldOK, frqT, frqV, frqVs, frqL, frq1, expG, expB3, renB, AV.ren, renL, List.range, List.range.loop, resVs, resV, pack, List.zipWith, List.idxOf?, List.findIdx?, List.findIdx?.go]
        · repeat (first | refine NV.seq ?_ | refine NV.blk ?_ | refine V.seq rfl ?_ | refine V.block rfl ?_ | refine V.skip rfl ?_ | refine V.ret rfl ?_ | refine NV.nil ?_ | refine NV.loop ?_ | refine V.exit rfl ?_ | refine XV.seq ?_ | refine XV.loop ?_ | refine XV.hit ?_ | refine XV.pass (by decide) ?_ | refine V.condT rfl (by rfl) ?_ | refine V.condF rfl (by rfl) ?_ | refine V.region tm no_specs rfl (by conv => lhs; simp) fun _ => ?_ | refine V.regionD tm no_specs rfl (by conv => lhs; simp) (by conv => lhs; simp) (by kernel_rfl) fun _ => ?_)
          simp only [List.length_nil, rowB]
          refine retM2_ok false [96] [0] ?_
          simp [retM2, movedOK, oldOK, frqT, frqV, frqVs, frqL, frq1, expG, expB3, renB, AV.ren, renL, List.range, List.range.loop, resVs, resV, pack, List.zipWith, List.idxOf?, List.findIdx?, List.findIdx?.go]
      | cons x rows =>
        simp only [List.length_cons] at h1 h2 h1'
        try simp only [Nat.mul_one] at h1
        repeat (first | refine NV.seq ?_ | refine NV.blk ?_ | refine V.seq rfl ?_ | refine V.block rfl ?_ | refine V.skip rfl ?_ | refine V.ret rfl ?_ | refine NV.nil ?_ | refine NV.loop ?_ | refine V.exit rfl ?_ | refine XV.seq ?_ | refine XV.loop ?_ | refine XV.hit ?_ | refine XV.pass (by decide) ?_ | refine V.condT rfl (by rfl) ?_ | refine V.condF rfl (by rfl) ?_ | refine V.region tm no_specs rfl (by conv => lhs; simp [h1, h2, h1']) fun _ => ?_ | refine V.regionD tm no_specs rfl (by conv => lhs; simp [h1, h2, h1']) (by conv => lhs; simp) (by kernel_rfl) fun _ => ?_)
        simp only [List.length_cons, rowB]
        refine retM2_ok false [96] [0] ?_
        simp [retM2, movedOK, oldOK, frqT, frqV, frqVs, frqL, frq1, expG, expB3, renB, AV.ren, renL, List.range, List.range.loop, resVs, resV, pack, List.zipWith, List.idxOf?, List.findIdx?, List.findIdx?.go]
    · cases hS
  · rename_i len b
    split at hS
    · rename_i hc
      obtain ⟨hb, rfl, h1, h2⟩ := hc
      simp only [Option.some.injEq, Prod.mk.injEq] at hS
      obtain ⟨rfl, rfl⟩ := hS
      rw [okB_eq hb]
      generalize b.rows = rows at h1 h2 ⊢
      refine ⟨by simp, ?_⟩
      change V _ (RetM _ _ 1 _ _) _ _ ⟨8, [(0, .sl 0 0 0 rows.length)], [(0, { gen := 0, kind := 2, elem := 5, size := 1, inl := true, rows })]⟩
      cases rows with
      | nil =>
        refine V.slNil (t := 0) 1 rfl rfl rfl rfl ?_ ?_
        · repeat (first | refine NV.seq ?_ | refine NV.blk ?_ | refine V.seq rfl ?_ | refine V.block rfl ?_ | refine V.skip rfl ?_ | refine NV.nil ?_ | refine NV.loop ?_ | refine V.exit rfl ?_ | refine XV.seq ?_ | refine XV.loop ?_ | refine XV.hit ?_ | refine XV.pass (by decide) ?_ | refine V.condT rfl (by rfl) ?_ | refine V.condF rfl (by rfl) ?_ | refine V.region tm no_specs rfl (by conv => lhs; simp) fun _ => ?_ | refine V.regionD tm no_specs rfl (by conv => lhs; simp) (by conv => lhs; simp) (by kernel_rfl) fun _ => ?_)
          refine V.phantom (t := 2) 100 5 1 rfl rfl (by decide) ?_
          repeat (first | refine NV.seq ?_ | refine NV.blk ?_ | refine V.seq rfl ?_ | refine V.block rfl ?_ | refine V.skip rfl ?_ | refine V.ret rfl ?_ | refine NV.nil ?_ | refine NV.loop ?_ | refine V.exit rfl ?_ | refine XV.seq ?_ | refine XV.loop ?_ | refine XV.hit ?_ | refine XV.pass (by decide) ?_ | refine V.condT rfl (by rfl) ?_ | refine V.condF rfl (by rfl) ?_ | refine V.region tm no_specs rfl (by conv => lhs; simp) fun _ => ?_ | refine V.regionD tm no_specs rfl (by conv => lhs; simp) (by conv => lhs; simp) (by kernel_rfl) fun _ => ?_)
          simp only [List.length_nil, rowB]
          refine retM2_ok false [0, 100] [0, 0] ?_
          simp [retM2, movedOK, oldOK, frqT, frqV, frqVs, frqL, frq1, expG, expB3, renB, AV.ren, renL, List.range, List.range.loop, resVs, resV, pack, List.zipWith, List.idxOf?, List.findIdx?, List.findIdx?.go]
        · repeat (first | refine NV.seq ?_ | refine NV.blk ?_ | refine V.seq rfl ?_ | refine V.block rfl ?_ | refine V.skip rfl ?_ | refine V.ret rfl ?_ | refine NV.nil ?_ | refine NV.loop ?_ | refine V.exit rfl ?_ | refine XV.seq ?_ | refine XV.loop ?_ | refine XV.hit ?_ | refine XV.pass (by decide) ?_ | refine V.condT rfl (by rfl) ?_ | refine V.condF rfl (by rfl) ?_ | refine V.region tm no_specs rfl (by conv => lhs; simp) fun _ => ?_ | refine V.regionD tm no_specs rfl (by conv => lhs; simp) (by conv => lhs; simp) (by kernel_rfl) fun _ => ?_)
          simp only [List.length_nil, rowB]
          refine retM2_ok false [0, 96] [0, 0] ?_
          simp [retM2, movedOK, oldOK, frqT, frqV, frqVs, frqL, frq1, expG, expB3, renB, AV.ren, renL, List.range, List.range.loop, resVs, resV, pack, List.zipWith, List.idxOf?, List.findIdx?, List.findIdx?.go]
      | cons x rows =>
        simp only [List.length_cons] at h1 h2
        try simp only [Nat.mul_one] at h1
        repeat (first | refine NV.seq ?_ | refine NV.blk ?_ | refine V.seq rfl ?_ | refine V.block rfl ?_ | refine V.skip rfl ?_ | refine V.ret rfl ?_ | refine NV.nil ?_ | refine NV.loop ?_ | refine V.exit rfl ?_ | refine XV.seq ?_ | refine XV.loop ?_ | refine XV.hit ?_ | refine XV.pass (by decide) ?_ | refine V.condT rfl (by rfl) ?_ | refine V.condF rfl (by rfl) ?_ | refine V.region tm no_specs rfl (by conv => lhs; simp [h1, h2]) fun _ => ?_ | refine V.regionD tm no_specs rfl (by conv => lhs; simp [h1, h2]) (by conv => lhs; simp) (by kernel_rfl) fun _ => ?_)
        simp only [List.length_cons, rowB]
        refine retM2_ok false [0, 96] [0, 0] ?_
        simp [retM2, movedOK, oldOK, frqT, frqV, frqVs, frqL, frq1, expG, expB3, renB, AV.ren, renL, List.range, List.range.loop, resVs, resV, pack, List.zipWith, List.idxOf?, List.findIdx?, List.findIdx?.go]
    · cases hS
  · cases hS
theorem clone100_ok : FnC Tryz.prog 100 (cloneC 26 1 8) := by
  refine FnC.ofV 100 (fn := Tryz.f100) Tryz.func100 rfl (by kernel_rfl) fun args B r B' hS => ?_
  unfold cloneC at hS
  split at hS
  · simp only [Option.some.injEq, Prod.mk.injEq] at hS
    obtain ⟨rfl, rfl⟩ := hS
    refine ⟨by simp, ?_⟩
    change V _ (RetM _ _ 0 _ _) _ _ ⟨8, [(0, .nils)], []⟩
    repeat (first | refine NV.seq ?_ | refine NV.blk ?_ | refine V.seq rfl ?_ | refine V.block rfl ?_ | refine V.skip rfl ?_ | refine V.ret rfl ?_ | refine NV.nil ?_ | refine NV.loop ?_ | refine V.exit rfl ?_ | refine XV.seq ?_ | refine XV.loop ?_ | refine XV.hit ?_ | refine XV.pass (by decide) ?_ | refine V.condT rfl (by rfl) ?_ | refine V.condF rfl (by rfl) ?_ | refine V.region tm no_specs rfl (by conv => lhs; simp) fun _ => ?_ | refine V.regionD tm no_specs rfl (by conv => lhs; simp) (by conv => lhs; simp) (by kernel_rfl) fun _ => ?_)
    refine retM2_ok false [] [] ?_
    simp [retM2, movedOK, oldOK, frqT, frqV, frqVs, frqL, frq1, expG, expB3, renB, AV.ren, renL, List.range, List.range.loop, resVs, resV, pack, List.zipWith, List.idxOf?, List.findIdx?, List.findIdx?.go]
  · rename_i s rows
    split at hS
    · rename_i hc
      obtain ⟨rfl, h1, h1', h2⟩ := hc
      simp only [Option.some.injEq, Prod.mk.injEq] at hS
      obtain ⟨rfl, rfl⟩ := hS
      refine ⟨by simp, ?_⟩
      change V _ (RetM _ _ 0 _ _) _ _ ⟨8, [(0, .list 1 rows)], []⟩
      cases rows with
      | nil =>
        refine V.nilCase (t := 0) (s := 1) 0 rfl rfl ?_ ?_
        · repeat (first | refine NV.seq ?_ | refine NV.blk ?_ | refine V.seq rfl ?_ | refine V.block rfl ?_ | refine V.skip rfl ?_ | refine NV.nil ?_ | refine NV.loop ?_ | refine V.exit rfl ?_ | refine XV.seq ?_ | refine XV.loop ?_ | refine XV.hit ?_ | refine XV.pass (by decide) ?_ | refine V.condT rfl (by rfl) ?_ | refine V.condF rfl (by rfl) ?_ | refine V.region tm no_specs rfl (by conv => lhs; simp) fun _ => ?_ | refine V.regionD tm no_specs rfl (by conv => lhs; simp) (by conv => lhs; simp) (by kernel_rfl) fun _ => ?_)
          refine V.phantom (t := 2) 100 26 1 rfl rfl (by decide) ?_
          repeat (first | refine NV.seq ?_ | refine NV.blk ?_ | refine V.seq rfl ?_ | refine V.block rfl ?_ | refine V.skip rfl ?_ | refine V.ret rfl ?_ | refine NV.nil ?_ | refine NV.loop ?_ | refine V.exit rfl ?_ | refine XV.seq ?_ | refine XV.loop ?_ | refine XV.hit ?_ | refine XV.pass (by decide) ?_ | refine V.condT rfl (by rfl) ?_ | refine V.condF rfl (by rfl) ?_ | refine V.region tm no_specs rfl (by conv => lhs; simp) fun _ => ?_ | refine V.regionD tm no_specs rfl (by conv => lhs; simp) (by conv => lhs; simp) (by kernel_rfl) fun _ => ?_)
          simp only [List.length_nil, rowB]
          refine retM2_ok false [100] [0] ?_
          simp [retM2, movedOK, oldOK, frqT, frqV, frqVs, frqL, frq1, expG, expB3, renB, AV.ren, renL, List.range, List.range.loop, resVs, resV, pack, List.zipWith, List.idxOf?, List.findIdx?, List.findIdx?.go]
        · repeat (first | refine NV.seq ?_ | refine NV.blk ?_ | refine V.seq rfl ?_ | refine V.block rfl ?_ | refine V.skip rfl ?_ | refine V.ret rfl ?_ | refine NV.nil ?_ | refine NV.loop ?_ | refine V.exit rfl ?_ | refine XV.seq ?_ | refine XV.loop ?_ | refine XV.hit ?_ | refine XV.pass (by decide) ?_ | refine V.condT rfl (by rfl) ?_ | refine V.condF rfl (by rfl) ?_ | refine V.region tm no_specs rfl (by conv => lhs; simp) fun _ => ?_ | refine V.regionD tm no_specs rfl (by conv => lhs; simp) (by conv => lhs; simp) (by kernel_rfl) fun _ => ?_)
          simp only [List.length_nil, rowB]
          refine retM2_ok false [96] [0] ?_
          simp [retM2, movedOK, oldOK, frqT, frqV, frqVs, frqL, frq1, expG, expB3, renB, AV.ren, renL, List.range, List.range.loop, resVs, resV, pack, List.zipWith, List.idxOf?, List.findIdx?, List.findIdx?.go]
      | cons x rows =>
        simp only [List.length_cons] at h1 h2 h1'
        try simp only [Nat.mul_one] at h1
        repeat (first | refine NV.seq ?_ | refine NV.blk ?_ | refine V.seq rfl ?_ | refine V.block rfl ?_ | refine V.skip rfl ?_ | refine V.ret rfl ?_ | refine NV.nil ?_ | refine NV.loop ?_ | refine V.exit rfl ?_ | refine XV.seq ?_ | refine XV.loop ?_ | refine XV.hit ?_ | refine XV.pass (by decide) ?_ | refine V.condT rfl (by rfl) ?_ | refine V.condF rfl (by rfl) ?_ | refine V.region tm no_specs rfl (by conv => lhs; simp [h1, h2, h1']) fun _ => ?_ | refine V.regionD tm no_specs rfl (by conv => lhs; simp [h1, h2, h1']) (by conv => lhs; simp) (by kernel_rfl) fun _ => ?_)
        simp only [List.length_cons, rowB]
        refine retM2_ok false [96] [0] ?_
        simp [retM2, movedOK, oldOK, frqT, frqV, frqVs, frqL, frq1, expG, expB3, renB, AV.ren, renL, List.range, List.range.loop, resVs, resV, pack, List.zipWith, List.idxOf?, List.findIdx?, List.findIdx?.go]
    · cases hS
  · rename_i len b
    split at hS
    · rename_i hc
      obtain ⟨hb, rfl, h1, h2⟩ := hc
      simp only [Option.some.injEq, Prod.mk.injEq] at hS
      obtain ⟨rfl, rfl⟩ := hS
      rw [okB_eq hb]
      generalize b.rows = rows at h1 h2 ⊢
      refine ⟨by simp, ?_⟩
      change V _ (RetM _ _ 1 _ _) _ _ ⟨8, [(0, .sl 0 0 0 rows.length)], [(0, { gen := 0, kind := 2, elem := 26, size := 1, inl := true, rows })]⟩
      cases rows with
      | nil =>
        refine V.slNil (t := 0) 1 rfl rfl rfl rfl ?_ ?_
        · repeat (first | refine NV.seq ?_ | refine NV.blk ?_ | refine V.seq rfl ?_ | refine V.block rfl ?_ | refine V.skip rfl ?_ | refine NV.nil ?_ | refine NV.loop ?_ | refine V.exit rfl ?_ | refine XV.seq ?_ | refine XV.loop ?_ | refine XV.hit ?_ | refine XV.pass (by decide) ?_ | refine V.condT rfl (by rfl) ?_ | refine V.condF rfl (by rfl) ?_ | refine V.region tm no_specs rfl (by conv => lhs; simp) fun _ => ?_ | refine V.regionD tm no_specs rfl (by conv => lhs; simp) (by conv => lhs; simp) (by kernel_rfl) fun _ => ?_)
          refine V.phantom (t := 2) 100 26 1 rfl rfl (by decide) ?_
          repeat (first | refine NV.seq ?_ | refine NV.blk ?_ | refine V.seq rfl ?_ | refine V.block rfl ?_ | refine V.skip rfl ?_ | refine V.ret rfl ?_ | refine NV.nil ?_ | refine NV.loop ?_ | refine V.exit rfl ?_ | refine XV.seq ?_ | refine XV.loop ?_ | refine XV.hit ?_ | refine XV.pass (by decide) ?_ | refine V.condT rfl (by rfl) ?_ | refine V.condF rfl (by rfl) ?_ | refine V.region tm no_specs rfl (by conv => lhs; simp) fun _ => ?_ | refine V.regionD tm no_specs rfl (by conv => lhs; simp) (by conv => lhs; simp) (by kernel_rfl) fun _ => ?_)
          simp only [List.length_nil, rowB]
          refine retM2_ok false [0, 100] [0, 0] ?_
          simp [retM2, movedOK, oldOK, frqT, frqV, frqVs, frqL, frq1, expG, expB3, renB, AV.ren, renL, List.range, List.range.loop, resVs, resV, pack, List.zipWith, List.idxOf?, List.findIdx?, List.findIdx?.go]
        · repeat (first | refine NV.seq ?_ | refine NV.blk ?_ | refine V.seq rfl ?_ | refine V.block rfl ?_ | refine V.skip rfl ?_ | refine V.ret rfl ?_ | refine NV.nil ?_ | refine NV.loop ?_ | refine V.exit rfl ?_ | refine XV.seq ?_ | refine XV.loop ?_ | refine XV.hit ?_ | refine XV.pass (by decide) ?_ | refine V.condT rfl (by rfl) ?_ | refine V.condF rfl (by rfl) ?_ | refine V.region tm no_specs rfl (by conv => lhs; simp) fun _ => ?_ | refine V.regionD tm no_specs rfl (by conv => lhs; simp) (by conv => lhs; simp) (by kernel_rfl) fun _ => ?_)
          simp only [List.length_nil, rowB]
          refine retM2_ok false [0, 96] [0, 0] ?_
          simp [retM2, movedOK, oldOK, frqT, frqV, frqVs, frqL, frq1, expG, expB3, renB, AV.ren, renL, List.range, List.range.loop, resVs, resV, pack, List.zipWith, List.idxOf?, List.findIdx?, List.findIdx?.go]
      | cons x rows =>
        simp only [List.length_cons] at h1 h2
        try simp only [Nat.mul_one] at h1
        repeat (first | refine NV.seq ?_ | refine NV.blk ?_ | refine V.seq rfl ?_ | refine V.block rfl ?_ | refine V.skip rfl ?_ | refine V.ret rfl ?_ | refine NV.nil ?_ | refine NV.loop ?_ | refine V.exit rfl ?_ | refine XV.seq ?_ | refine XV.loop ?_ | refine XV.hit ?_ | refine XV.pass (by decide) ?_ | refine V.condT rfl (by rfl) ?_ | refine V.condF rfl (by rfl) ?_ | refine V.region tm no_specs rfl (by conv => lhs; simp [h1, h2]) fun _ => ?_ | refine V.regionD tm no_specs rfl (by conv => lhs; simp [h1, h2]) (by conv => lhs; simp) (by kernel_rfl) fun _ => ?_)
        simp only [List.length_cons, rowB]
        refine retM2_ok false [0, 96] [0, 0] ?_
        simp [retM2, movedOK, oldOK, frqT, frqV, frqVs, frqL, frq1, expG, expB3, renB, AV.ren, renL, List.range, List.range.loop, resVs, resV, pack, List.zipWith, List.idxOf?, List.findIdx?, List.findIdx?.go]
    · cases hS
  · cases hS
theorem clone101_ok : FnC Tryz.prog 101 (cloneC 94 3 48) := by
  refine FnC.ofV 101 (fn := Tryz.f101) Tryz.func101 rfl (by kernel_rfl) fun args B r B' hS => ?_
  unfold cloneC at hS
  split at hS
  · simp only [Option.some.injEq, Prod.mk.injEq] at hS
    obtain ⟨rfl, rfl⟩ := hS
    refine ⟨by simp, ?_⟩
    change V _ (RetM _ _ 0 _ _) _ _ ⟨8, [(0, .nils)], []⟩
    repeat (first | refine NV.seq ?_ | refine NV.blk ?_ | refine V.seq rfl ?_ | refine V.block rfl ?_ | refine V.skip rfl ?_ | refine V.ret rfl ?_ | refine NV.nil ?_ | refine NV.loop ?_ | refine V.exit rfl ?_ | refine XV.seq ?_ | refine XV.loop ?_ | refine XV.hit ?_ | refine XV.pass (by decide) ?_ | refine V.condT rfl (by rfl) ?_ | refine V.condF rfl (by rfl) ?_ | refine V.region tm no_specs rfl (by conv => lhs; simp) fun _ => ?_ | refine V.regionD tm no_specs rfl (by conv => lhs; simp) (by conv => lhs; simp) (by kernel_rfl) fun _ => ?_)
    refine retM2_ok false [] [] ?_
    simp [retM2, movedOK, oldOK, frqT, frqV, frqVs, frqL, frq1, expG, expB3, renB, AV.ren, renL, List.range, List.range.loop, resVs, resV, pack, List.zipWith, List.idxOf?, List.findIdx?, List.findIdx?.go]
  · rename_i s rows
    split at hS
    · rename_i hc
      obtain ⟨rfl, h1, h1', h2⟩ := hc
      simp only [Option.some.injEq, Prod.mk.injEq] at hS
      obtain ⟨rfl, rfl⟩ := hS
      refine ⟨by simp, ?_⟩
      change V _ (RetM _ _ 0 _ _) _ _ ⟨8, [(0, .list 3 rows)], []⟩
      cases rows with
      | nil =>
        refine V.nilCase (t := 0) (s := 3) 0 rfl rfl ?_ ?_
        · repeat (first | refine NV.seq ?_ | refine NV.blk ?_ | refine V.seq rfl ?_ | refine V.block rfl ?_ | refine V.skip rfl ?_ | refine NV.nil ?_ | refine NV.loop ?_ | refine V.exit rfl ?_ | refine XV.seq ?_ | refine XV.loop ?_ | refine XV.hit ?_ | refine XV.pass (by decide) ?_ | refine V.condT rfl (by rfl) ?_ | refine V.condF rfl (by rfl) ?_ | refine V.region tm no_specs rfl (by conv => lhs; simp) fun _ => ?_ | refine V.regionD tm no_specs rfl (by conv => lhs; simp) (by conv => lhs; simp) (by kernel_rfl) fun _ => ?_)
          refine V.phantom (t := 2) 100 94 3 rfl rfl (by decide) ?_
          repeat (first | refine NV.seq ?_ | refine NV.blk ?_ | refine V.seq rfl ?_ | refine V.block rfl ?_ | refine V.skip rfl ?_ | refine V.ret rfl ?_ | refine NV.nil ?_ | refine NV.loop ?_ | refine V.exit rfl ?_ | refine XV.seq ?_ | refine XV.loop ?_ | refine XV.hit ?_ | refine XV.pass (by decide) ?_ | refine V.condT rfl (by rfl) ?_ | refine V.condF rfl (by rfl) ?_ | refine V.region tm no_specs rfl (by conv => lhs; simp) fun _ => ?_ | refine V.regionD tm no_specs rfl (by conv => lhs; simp) (by conv => lhs; simp) (by kernel_rfl) fun _ => ?_)
          simp only [List.length_nil, rowB]
          refine retM2_ok false [100] [0] ?_
          simp [retM2, movedOK, oldOK, frqT, frqV, frqVs, frqL, frq1, expG, expB3, renB, AV.ren, renL, List.range, List.range.loop, resVs, resV, pack, List.zipWith, List.idxOf?, List.findIdx?, List.findIdx?.go]
        · repeat (first | refine NV.seq ?_ | refine NV.blk ?_ | refine V.seq rfl ?_ | refine V.block rfl ?_ | refine V.skip rfl ?_ | refine V.ret rfl ?_ | refine NV.nil ?_ | refine NV.loop ?_ | refine V.exit rfl ?_ | refine XV.seq ?_ | refine XV.loop ?_ | refine XV.hit ?_ | refine XV.pass (by decide) ?_ | refine V.condT rfl (by rfl) ?_ | refine V.condF rfl (by rfl) ?_ | refine V.region tm no_specs rfl (by conv => lhs; simp) fun _ => ?_ | refine V.regionD tm no_specs rfl (by conv => lhs; simp) (by conv => lhs; simp) (by kernel_rfl) fun _ => ?_)
          simp only [List.length_nil, rowB]
          refine retM2_ok false [96] [0] ?_
          simp [retM2, movedOK, oldOK, frqT, frqV, frqVs, frqL, frq1, expG, expB3, renB, AV.ren, renL, List.range, List.range.loop, resVs, resV, pack, List.zipWith, List.idxOf?, List.findIdx?, List.findIdx?.go]
      | cons x rows =>
        simp only [List.length_cons] at h1 h2 h1'
        try simp only [Nat.mul_one] at h1
        repeat (first | refine NV.seq ?_ | refine NV.blk ?_ | refine V.seq rfl ?_ | refine V.block rfl ?_ | refine V.skip rfl ?_ | refine V.ret rfl ?_ | refine NV.nil ?_ | refine NV.loop ?_ | refine V.exit rfl ?_ | refine XV.seq ?_ | refine XV.loop ?_ | refine XV.hit ?_ | refine XV.pass (by decide) ?_ | refine V.condT rfl (by rfl) ?_ | refine V.condF rfl (by rfl) ?_ | refine V.region tm no_specs rfl (by conv => lhs; simp [h1, h2, h1']) fun _ => ?_ | refine V.regionD tm no_specs rfl (by conv => lhs; simp [h1, h2, h1']) (by conv => lhs; simp) (by kernel_rfl) fun _ => ?_)
        simp only [List.length_cons, rowB]
        refine retM2_ok false [96] [0] ?_
        simp [retM2, movedOK, oldOK, frqT, frqV, frqVs, frqL, frq1, expG, expB3, renB, AV.ren, renL, List.range, List.range.loop, resVs, resV, pack, List.zipWith, List.idxOf?, List.findIdx?, List.findIdx?.go]
    · cases hS
  · rename_i len b
    split at hS
    · rename_i hc
      obtain ⟨hb, rfl, h1, h2⟩ := hc
      simp only [Option.some.injEq, Prod.mk.injEq] at hS
      obtain ⟨rfl, rfl⟩ := hS
      rw [okB_eq hb]
      generalize b.rows = rows at h1 h2 ⊢
      refine ⟨by simp, ?_⟩
      change V _ (RetM _ _ 1 _ _) _ _ ⟨8, [(0, .sl 0 0 0 rows.length)], [(0, { gen := 0, kind := 2, elem := 94, size := 3, inl := true, rows })]⟩
      cases rows with
      | nil =>
        refine V.slNil (t := 0) 1 rfl rfl rfl rfl ?_ ?_
        · repeat (first | refine NV.seq ?_ | refine NV.blk ?_ | refine V.seq rfl ?_ | refine V.block rfl ?_ | refine V.skip rfl ?_ | refine NV.nil ?_ | refine NV.loop ?_ | refine V.exit rfl ?_ | refine XV.seq ?_ | refine XV.loop ?_ | refine XV.hit ?_ | refine XV.pass (by decide) ?_ | refine V.condT rfl (by rfl) ?_ | refine V.condF rfl (by rfl) ?_ | refine V.region tm no_specs rfl (by conv => lhs; simp) fun _ => ?_ | refine V.regionD tm no_specs rfl (by conv => lhs; simp) (by conv => lhs; simp) (by kernel_rfl) fun _ => ?_)
          refine V.phantom (t := 2) 100 94 3 rfl rfl (by decide) ?_
          repeat (first | refine NV.seq ?_ | refine NV.blk ?_ | refine V.seq rfl ?_ | refine V.block rfl ?_ | refine V.skip rfl ?_ | refine V.ret rfl ?_ | refine NV.nil ?_ | refine NV.loop ?_ | refine V.exit rfl ?_ | refine XV.seq ?_ | refine XV.loop ?_ | refine XV.hit ?_ | refine XV.pass (by decide) ?_ | refine V.condT rfl (by rfl) ?_ | refine V.condF rfl (by rfl) ?_ | refine V.region tm no_specs rfl (by conv => lhs; simp) fun _ => ?_ | refine V.regionD tm no_specs rfl (by conv => lhs; simp) (by conv => lhs; simp) (by kernel_rfl) fun _ => ?_)
          simp only [List.length_nil, rowB]
          refine retM2_ok false [0, 100] [0, 0] ?_
          simp [retM2, movedOK, oldOK, frqT, frqV, frqVs, frqL, frq1, expG, expB3, renB, AV.ren, renL, List.range, List.range.loop, resVs, resV, pack, List.zipWith, List.idxOf?, List.findIdx?, List.findIdx?.go]
        · repeat (first | refine NV.seq ?_ | refine NV.blk ?_ | refine V.seq rfl ?_ | refine V.block rfl ?_ | refine V.skip rfl ?_ | refine V.ret rfl ?_ | refine NV.nil ?_ | refine NV.loop ?_ | refine V.exit rfl ?_ | refine XV.seq ?_ | refine XV.loop ?_ | refine XV.hit ?_ | refine XV.pass (by decide) ?_ | refine V.condT rfl (by rfl) ?_ | refine V.condF rfl (by rfl) ?_ | refine V.region tm no_specs rfl (by conv => lhs; simp) fun _ => ?_ | refine V.regionD tm no_specs rfl (by conv => lhs; simp) (by conv => lhs; simp) (by kernel_rfl) fun _ => ?_)
          simp only [List.length_nil, rowB]
          refine retM2_ok false [0, 96] [0, 0] ?_
          simp [retM2, movedOK, oldOK, frqT, frqV, frqVs, frqL, frq1, expG, expB3, renB, AV.ren, renL, List.range, List.range.loop, resVs, resV, pack, List.zipWith, List.idxOf?, List.findIdx?, List.findIdx?.go]
      | cons x rows =>
        simp only [List.length_cons] at h1 h2
        try simp only [Nat.mul_one] at h1
        repeat (first | refine NV.seq ?_ | refine NV.blk ?_ | refine V.seq rfl ?_ | refine V.block rfl ?_ | refine V.skip rfl ?_ | refine V.ret rfl ?_ | refine NV.nil ?_ | refine NV.loop ?_ | refine V.exit rfl ?_ | refine XV.seq ?_ | refine XV.loop ?_ | refine XV.hit ?_ | refine XV.pass (by decide) ?_ | refine V.condT rfl (by rfl) ?_ | refine V.condF rfl (by rfl) ?_ | refine V.region tm no_specs rfl (by conv => lhs; simp [h1, h2]) fun _ => ?_ | refine V.regionD tm no_specs rfl (by conv => lhs; simp [h1, h2]) (by conv => lhs; simp) (by kernel_rfl) fun _ => ?_)
        simp only [List.length_cons, rowB]
        refine retM2_ok false [0, 96] [0, 0] ?_
        simp [retM2, movedOK, oldOK, frqT, frqV, frqVs, frqL, frq1, expG, expB3, renB, AV.ren, renL, List.range, List.range.loop, resVs, resV, pack, List.zipWith, List.idxOf?, List.findIdx?, List.findIdx?.go]
    · cases hS
  · cases hS
theorem clone141_ok : FnC Tryz.prog 141 (cloneC 178 2 16) := by
  refine FnC.ofV 141 (fn := Tryz.f141) Tryz.func141 rfl (by kernel_rfl) fun args B r B' hS => ?_
  unfold cloneC at hS
  split at hS
  · simp only [Option.some.injEq, Prod.mk.injEq] at hS
    obtain ⟨rfl, rfl⟩ := hS
    refine ⟨by simp, ?_⟩
    change V _ (RetM _ _ 0 _ _) _ _ ⟨8, [(0, .nils)], []⟩
    repeat (first | refine NV.seq ?_ | refine NV.blk ?_ | refine V.seq rfl ?_ | refine V.block rfl ?_ | refine V.skip rfl ?_ | refine V.ret rfl ?_ | refine NV.nil ?_ | refine NV.loop ?_ | refine V.exit rfl ?_ | refine XV.seq ?_ | refine XV.loop ?_ | refine XV.hit ?_ | refine XV.pass (by decide) ?_ | refine V.condT rfl (by rfl) ?_ | refine V.condF rfl (by rfl) ?_ | refine V.region tm no_specs rfl (by conv => lhs; simp) fun _ => ?_ | refine V.regionD tm no_specs rfl (by conv => lhs; simp) (by conv => lhs; simp) (by kernel_rfl) fun _ => ?_)
    refine retM2_ok false [] [] ?_
    simp [retM2, movedOK, oldOK, frqT, frqV, frqVs, frqL, frq1, expG, expB3, renB, AV.ren, renL, List.range, List.range.loop, resVs, resV, pack, List.zipWith, List.idxOf?, List.findIdx?, List.findIdx?.go]
  · rename_i s rows
    split at hS
    · rename_i hc
      obtain ⟨rfl, h1, h1', h2⟩ := hc
      simp only [Option.some.injEq, Prod.mk.injEq] at hS
      obtain ⟨rfl, rfl⟩ := hS
      refine ⟨by simp, ?_⟩
      change V _ (RetM _ _ 0 _ _) _ _ ⟨8, [(0, .list 2 rows)], []⟩
      cases rows with
      | nil =>
        refine V.nilCase (t := 0) (s := 2) 0 rfl rfl ?_ ?_
        · repeat (first | refine NV.seq ?_ | refine NV.blk ?_ | refine V.seq rfl ?_ | refine V.block rfl ?_ | refine V.skip rfl ?_ | refine NV.nil ?_ | refine NV.loop ?_ | refine V.exit rfl ?_ | refine XV.seq ?_ | refine XV.loop ?_ | refine XV.hit ?_ | refine XV.pass (by decide) ?_ | refine V.condT rfl (by rfl) ?_ | refine V.condF rfl (by rfl) ?_ | refine V.region tm no_specs rfl (by conv => lhs; simp) fun _ => ?_ | refine V.regionD tm no_specs rfl (by conv => lhs; simp) (by conv => lhs; simp) (by kernel_rfl) fun _ => ?_)
          refine V.phantom (t := 2) 100 178 2 rfl rfl (by decide) ?_
          repeat (first | refine NV.seq ?_ | refine NV.blk ?_ | refine V.seq rfl ?_ | refine V.block rfl ?_ | refine V.skip rfl ?_ | refine V.ret rfl ?_ | refine NV.nil ?_ | refine NV.loop ?_ | refine V.exit rfl ?_ | refine XV.seq ?_ | refine XV.loop ?_ | refine XV.hit ?_ | refine XV.pass (by decide) ?_ | refine V.condT rfl (by rfl) ?_ | refine V.condF rfl (by rfl) ?_ | refine V.region tm no_specs rfl (by conv => lhs; simp) fun _ => ?_ | refine V.regionD tm no_specs rfl (by conv => lhs; simp) (by conv => lhs; simp) (by kernel_rfl) fun _ => ?_)
          simp only [List.length_nil, rowB]
          refine retM2_ok false [100] [0] ?_
          simp [retM2, movedOK, oldOK, frqT, frqV, frqVs, frqL, frq1, expG, expB3, renB, AV.ren, renL, List.range, List.range.loop, resVs, resV, pack, List.zipWith, List.idxOf?, List.findIdx?, List.findIdx?.go]
        · repeat (first | refine NV.seq ?_ | refine NV.blk ?_ | refine V.seq rfl ?_ | refine V.block rfl ?_ | refine V.skip rfl ?_ | refine V.ret rfl ?_ | refine NV.nil ?_ | refine NV.loop ?_ | refine V.exit rfl ?_ | refine XV.seq ?_ | refine XV.loop ?_ | refine XV.hit ?_ | refine XV.pass (by decide) ?_ | refine V.condT rfl (by rfl) ?_ | refine V.condF rfl (by rfl) ?_ | refine V.region tm no_specs rfl (by conv => lhs; simp) fun _ => ?_ | refine V.regionD tm no_specs rfl (by conv => lhs; simp) (by conv => lhs; simp) (by kernel_rfl) fun _ => ?_)
          simp only [List.length_nil, rowB]
          refine retM2_ok false [96] [0] ?_
          simp [retM2, movedOK, oldOK, frqT, frqV, frqVs, frqL, frq1, expG, expB3, renB, AV.ren, renL, List.range, List.range.loop, resVs, resV, pack, List.zipWith, List.idxOf?, List.findIdx?, List.findIdx?.go]
      | cons x rows =>
        simp only [List.length_cons] at h1 h2 h1'
        try simp only [Nat.mul_one] at h1
        repeat (first | refine NV.seq ?_ | refine NV.blk ?_ | refine V.seq rfl ?_ | refine V.block rfl ?_ | refine V.skip rfl ?_ | refine V.ret rfl ?_ | refine NV.nil ?_ | refine NV.loop ?_ | refine V.exit rfl ?_ | refine XV.seq ?_ | refine XV.loop ?_ | refine XV.hit ?_ | refine XV.pass (by decide) ?_ | refine V.condT rfl (by rfl) ?_ | refine V.condF rfl (by rfl) ?_ | refine V.region tm no_specs rfl (by conv => lhs; simp [h1, h2, h1']) fun _ => ?_ | refine V.regionD tm no_specs rfl (by conv => lhs; simp [h1, h2, h1']) (by conv => lhs; simp) (by kernel_rfl) fun _ => ?_)
        simp only [List.length_cons, rowB]
        refine retM2_ok false [96] [0] ?_
        simp [retM2, movedOK, oldOK, frqT, frqV, frqVs, frqL, frq1, expG, expB3, renB, AV.ren, renL, List.range, List.range.loop, resVs, resV, pack, List.zipWith, List.idxOf?, List.findIdx?, List.findIdx?.go]
    · cases hS
  · rename_i len b
    split at hS
    · rename_i hc
      obtain ⟨hb, rfl, h1, h2⟩ := hc
      simp only [Option.some.injEq, Prod.mk.injEq] at hS
      obtain ⟨rfl, rfl⟩ := hS
      rw [okB_eq hb]
      generalize b.rows = rows at h1 h2 ⊢
      refine ⟨by simp, ?_⟩
      change V _ (RetM _ _ 1 _ _) _ _ ⟨8, [(0, .sl 0 0 0 rows.length)], [(0, { gen := 0, kind := 2, elem := 178, size := 2, inl := true, rows })]⟩
      cases rows with
      | nil =>
        refine V.slNil (t := 0) 1 rfl rfl rfl rfl ?_ ?_
        · repeat (first | refine NV.seq ?_ | refine NV.blk ?_ | refine V.seq rfl ?_ | refine V.block rfl ?_ | refine V.skip rfl ?_ | refine NV.nil ?_ | refine NV.loop ?_ | refine V.exit rfl ?_ | refine XV.seq ?_ | refine XV.loop ?_ | refine XV.hit ?_ | refine XV.pass (by decide) ?_ | refine V.condT rfl (by rfl) ?_ | refine V.condF rfl (by rfl) ?_ | refine V.region tm no_specs rfl (by conv => lhs; simp) fun _ => ?_ | refine V.regionD tm no_specs rfl (by conv => lhs; simp) (by conv => lhs; simp) (by kernel_rfl) fun _ => ?_)
          refine V.phantom (t := 2) 100 178 2 rfl rfl (by decide) ?_
          repeat (first | refine NV.seq ?_ | refine NV.blk ?_ | refine V.seq rfl ?_ | refine V.block rfl ?_ | refine V.skip rfl ?_ | refine V.ret rfl ?_ | refine NV.nil ?_ | refine NV.loop ?_ | refine V.exit rfl ?_ | refine XV.seq ?_ | refine XV.loop ?_ | refine XV.hit ?_ | refine XV.pass (by decide) ?_ | refine V.condT rfl (by rfl) ?_ | refine V.condF rfl (by rfl) ?_ | refine V.region tm no_specs rfl (by conv => lhs; simp) fun _ => ?_ | refine V.regionD tm no_specs rfl (by conv => lhs; simp) (by conv => lhs; simp) (by kernel_rfl) fun _ => ?_)
          simp only [List.length_nil, rowB]
          refine retM2_ok false [0, 100] [0, 0] ?_
          simp [retM2, movedOK, oldOK, frqT, frqV, frqVs, frqL, frq1, expG, expB3, renB, AV.ren, renL, List.range, List.range.loop, resVs, resV, pack, List.zipWith, List.idxOf?, List.findIdx?, List.findIdx?.go]
        · repeat (first | refine NV.seq ?_ | refine NV.blk ?_ | refine V.seq rfl ?_ | refine V.block rfl ?_ | refine V.skip rfl ?_ | refine V.ret rfl ?_ | refine NV.nil ?_ | refine NV.loop ?_ | refine V.exit rfl ?_ | refine XV.seq ?_ | refine XV.loop ?_ | refine XV.hit ?_ | refine XV.pass (by decide) ?_ | refine V.condT rfl (by rfl) ?_ | refine V.condF rfl (by rfl) ?_ | refine V.region tm no_specs rfl (by conv => lhs; simp) fun _ => ?_ | refine V.regionD tm no_specs rfl (by conv => lhs; simp) (by conv => lhs; simp) (by kernel_rfl) fun _ => ?_)
          simp only [List.length_nil, rowB]
          refine retM2_ok false [0, 96] [0, 0] ?_
          simp [retM2, movedOK, oldOK, frqT, frqV, frqVs, frqL, frq1, expG, expB3, renB, AV.ren, renL, List.range, List.range.loop, resVs, resV, pack, List.zipWith, List.idxOf?, List.findIdx?, List.findIdx?.go]
      | cons x rows =>
        simp only [List.length_cons] at h1 h2
        try simp only [Nat.mul_one] at h1
        repeat (first | refine NV.seq ?_ | refine NV.blk ?_ | refine V.seq rfl ?_ | refine V.block rfl ?_ | refine V.skip rfl ?_ | refine V.ret rfl ?_ | refine NV.nil ?_ | refine NV.loop ?_ | refine V.exit rfl ?_ | refine XV.seq ?_ | refine XV.loop ?_ | refine XV.hit ?_ | refine XV.pass (by decide) ?_ | refine V.condT rfl (by rfl) ?_ | refine V.condF rfl (by rfl) ?_ | refine V.region tm no_specs rfl (by conv => lhs; simp [h1, h2]) fun _ => ?_ | refine V.regionD tm no_specs rfl (by conv => lhs; simp [h1, h2]) (by conv => lhs; simp) (by kernel_rfl) fun _ => ?_)
        simp only [List.length_cons, rowB]
        refine retM2_ok false [0, 96] [0, 0] ?_
        simp [retM2, movedOK, oldOK, frqT, frqV, frqVs, frqL, frq1, expG, expB3, renB, AV.ren, renL, List.range, List.range.loop, resVs, resV, pack, List.zipWith, List.idxOf?, List.findIdx?, List.findIdx?.go]
    · cases hS
  · cases hS
theorem clone142_ok : FnC Tryz.prog 142 (cloneC 181 4 32) := by
  refine FnC.ofV 142 (fn := Tryz.f142) Tryz.func142 rfl (by kernel_rfl) fun args B r B' hS => ?_
  unfold cloneC at hS
  split at hS
  · simp only [Option.some.injEq, Prod.mk.injEq] at hS
    obtain ⟨rfl, rfl⟩ := hS
    refine ⟨by simp, ?_⟩
    change V _ (RetM _ _ 0 _ _) _ _ ⟨8, [(0, .nils)], []⟩
    repeat (first | refine NV.seq ?_ | refine NV.blk ?_ | refine V.seq rfl ?_ | refine V.block rfl ?_ | refine V.skip rfl ?_ | refine V.ret rfl ?_ | refine NV.nil ?_ | refine NV.loop ?_ | refine V.exit rfl ?_ | refine XV.seq ?_ | refine XV.loop ?_ | refine XV.hit ?_ | refine XV.pass (by decide) ?_ | refine V.condT rfl (by rfl) ?_ | refine V.condF rfl (by rfl) ?_ | refine V.region tm no_specs rfl (by conv => lhs; simp) fun _ => ?_ | refine V.regionD tm no_specs rfl (by conv => lhs; simp) (by conv => lhs; simp) (by kernel_rfl) fun _ => ?_)
    refine retM2_ok false [] [] ?_
    simp [retM2, movedOK, oldOK, frqT, frqV, frqVs, frqL, frq1, expG, expB3, renB, AV.ren, renL, List.range, List.range.loop, resVs, resV, pack, List.zipWith, List.idxOf?, List.findIdx?, List.findIdx?.go]
  · rename_i s rows
    split at hS
    · rename_i hc
      obtain ⟨rfl, h1, h1', h2⟩ := hc
      simp only [Option.some.injEq, Prod.mk.injEq] at hS
      obtain ⟨rfl, rfl⟩ := hS
      refine ⟨by simp, ?_⟩
      change V _ (RetM _ _ 0 _ _) _ _ ⟨8, [(0, .list 4 rows)], []⟩
      cases rows with
      | nil =>
        refine V.nilCase (t := 0) (s := 4) 0 rfl rfl ?_ ?_
        · repeat (first | refine NV.seq ?_ | refine NV.blk ?_ | refine V.seq rfl ?_ | refine V.block rfl ?_ | refine V.skip rfl ?_ | refine NV.nil ?_ | refine NV.loop ?_ | refine V.exit rfl ?_ | refine XV.seq ?_ | refine XV.loop ?_ | refine XV.hit ?_ | refine XV.pass (by decide) ?_ | refine V.condT rfl (by rfl) ?_ | refine V.condF rfl (by rfl) ?_ | refine V.region tm no_specs rfl (by conv => lhs; simp) fun _ => ?_ | refine V.regionD tm no_specs rfl (by conv => lhs; simp) (by conv => lhs; simp) (by kernel_rfl) fun _ => ?_)
          refine V.phantom (t := 2) 100 181 4 rfl rfl (by decide) ?_
          repeat (first | refine NV.seq ?_ | refine NV.blk ?_ | refine V.seq rfl ?_ | refine V.block rfl ?_ | refine V.skip rfl ?_ | refine V.ret rfl ?_ | refine NV.nil ?_ | refine NV.loop ?_ | refine V.exit rfl ?_ | refine XV.seq ?_ | refine XV.loop ?_ | refine XV.hit ?_ | refine XV.pass (by decide) ?_ | refine V.condT rfl (by rfl) ?_ | refine V.condF rfl (by rfl) ?_ | refine V.region tm no_specs rfl (by conv => lhs; simp) fun _ => ?_ | refine V.regionD tm no_specs rfl (by conv => lhs; simp) (by conv => lhs; simp) (by kernel_rfl) fun _ => ?_)
          simp only [List.length_nil, rowB]
          refine retM2_ok false [100] [0] ?_
          simp [retM2, movedOK, oldOK, frqT, frqV, frqVs, frqL, frq1, expG, expB3, renB, AV.ren, renL, List.range, List.range.loop, resVs, resV, pack, List.zipWith, List.idxOf?, List.findIdx?, List.findIdx?.go]
        · repeat (first | refine NV.seq ?_ | refine NV.blk ?_ | refine V.seq rfl ?_ | refine V.block rfl ?_ | refine V.skip rfl ?_ | refine V.ret rfl ?_ | refine NV.nil ?_ | refine NV.loop ?_ | refine V.exit rfl ?_ | refine XV.seq ?_ | refine XV.loop ?_ | refine XV.hit ?_ | refine XV.pass (by decide) ?_ | refine V.condT rfl (by rfl) ?_ | refine V.condF rfl (by rfl) ?_ | refine V.region tm no_specs rfl (by conv => lhs; simp) fun _ => ?_ | refine V.regionD tm no_specs rfl (by conv => lhs; simp) (by conv => lhs; simp) (by kernel_rfl) fun _ => ?_)
          simp only [List.length_nil, rowB]
          refine retM2_ok false [96] [0] ?_
          simp [retM2, movedOK, oldOK, frqT, frqV, frqVs, frqL, frq1, expG, expB3, renB, AV.ren, renL, List.range, List.range.loop, resVs, resV, pack, List.zipWith, List.idxOf?, List.findIdx?, List.findIdx?.go]
      | cons x rows =>
        simp only [List.length_cons] at h1 h2 h1'
        try simp only [Nat.mul_one] at h1
        repeat (first | refine NV.seq ?_ | refine NV.blk ?_ | refine V.seq rfl ?_ | refine V.block rfl ?_ | refine V.skip rfl ?_ | refine V.ret rfl ?_ | refine NV.nil ?_ | refine NV.loop ?_ | refine V.exit rfl ?_ | refine XV.seq ?_ | refine XV.loop ?_ | refine XV.hit ?_ | refine XV.pass (by decide) ?_ | refine V.condT rfl (by rfl) ?_ | refine V.condF rfl (by rfl) ?_ | refine V.region tm no_specs rfl (by conv => lhs; simp [h1, h2, h1']) fun _ => ?_ | refine V.regionD tm no_specs rfl (by conv => lhs; simp [h1, h2, h1']) (by conv => lhs; simp) (by kernel_rfl) fun _ => ?_)
        simp only [List.length_cons, rowB]
        refine retM2_ok false [96] [0] ?_
        simp [retM2, movedOK, oldOK, frqT, frqV, frqVs, frqL, frq1, expG, expB3, renB, AV.ren, renL, List.range, List.range.loop, resVs, resV, pack, List.zipWith, List.idxOf?, List.findIdx?, List.findIdx?.go]
    · cases hS
  · rename_i len b
    split at hS
    · rename_i hc
      obtain ⟨hb, rfl, h1, h2⟩ := hc
      simp only [Option.some.injEq, Prod.mk.injEq] at hS
      obtain ⟨rfl, rfl⟩ := hS
      rw [okB_eq hb]
      generalize b.rows = rows at h1 h2 ⊢
      refine ⟨by simp, ?_⟩
      change V _ (RetM _ _ 1 _ _) _ _ ⟨8, [(0, .sl 0 0 0 rows.length)], [(0, { gen := 0, kind := 2, elem := 181, size := 4, inl := true, rows })]⟩
      cases rows with
      | nil =>
        refine V.slNil (t := 0) 1 rfl rfl rfl rfl ?_ ?_
        · repeat (first | refine NV.seq ?_ | refine NV.blk ?_ | refine V.seq rfl ?_ | refine V.block rfl ?_ | refine V.skip rfl ?_ | refine NV.nil ?_ | refine NV.loop ?_ | refine V.exit rfl ?_ | refine XV.seq ?_ | refine XV.loop ?_ | refine XV.hit ?_ | refine XV.pass (by decide) ?_ | refine V.condT rfl (by rfl) ?_ | refine V.condF rfl (by rfl) ?_ | refine V.region tm no_specs rfl (by conv => lhs; simp) fun _ => ?_ | refine V.regionD tm no_specs rfl (by conv => lhs; simp) (by conv => lhs; simp) (by kernel_rfl) fun _ => ?_)
          refine V.phantom (t := 2) 100 181 4 rfl rfl (by decide) ?_
          repeat (first | refine NV.seq ?_ | refine NV.blk ?_ | refine V.seq rfl ?_ | refine V.block rfl ?_ | refine V.skip rfl ?_ | refine V.ret rfl ?_ | refine NV.nil ?_ | refine NV.loop ?_ | refine V.exit rfl ?_ | refine XV.seq ?_ | refine XV.loop ?_ | refine XV.hit ?_ | refine XV.pass (by decide) ?_ | refine V.condT rfl (by rfl) ?_ | refine V.condF rfl (by rfl) ?_ | refine V.region tm no_specs rfl (by conv => lhs; simp) fun _ => ?_ | refine V.regionD tm no_specs rfl (by conv => lhs; simp) (by conv => lhs; simp) (by kernel_rfl) fun _ => ?_)
          simp only [List.length_nil, rowB]
          refine retM2_ok false [0, 100] [0, 0] ?_
          simp [retM2, movedOK, oldOK, frqT, frqV, frqVs, frqL, frq1, expG, expB3, renB, AV.ren, renL, List.range, List.range.loop, resVs, resV, pack, List.zipWith, List.idxOf?, List.findIdx?, List.findIdx?.go]
        · repeat (first | refine NV.seq ?_ | refine NV.blk ?_ | refine V.seq rfl ?_ | refine V.block rfl ?_ | refine V.skip rfl ?_ | refine V.ret rfl ?_ | refine NV.nil ?_ | refine NV.loop ?_ | refine V.exit rfl ?_ | refine XV.seq ?_ | refine XV.loop ?_ | refine XV.hit ?_ | refine XV.pass (by decide) ?_ | refine V.condT rfl (by rfl) ?_ | refine V.condF rfl (by rfl) ?_ | refine V.region tm no_specs rfl (by conv => lhs; simp) fun _ => ?_ | refine V.regionD tm no_specs rfl (by conv => lhs; simp) (by conv => lhs; simp) (by kernel_rfl) fun _ => ?_)
          simp only [List.length_nil, rowB]
          refine retM2_ok false [0, 96] [0, 0] ?_
          simp [retM2, movedOK, oldOK, frqT, frqV, frqVs, frqL, frq1, expG, expB3, renB, AV.ren, renL, List.range, List.range.loop, resVs, resV, pack, List.zipWith, List.idxOf?, List.findIdx?, List.findIdx?.go]
      | cons x rows =>
        simp only [List.length_cons] at h1 h2
        try simp only [Nat.mul_one] at h1
        repeat (first | refine NV.seq ?_ | refine NV.blk ?_ | refine V.seq rfl ?_ | refine V.block rfl ?_ | refine V.skip rfl ?_ | refine V.ret rfl ?_ | refine NV.nil ?_ | refine NV.loop ?_ | refine V.exit rfl ?_ | refine XV.seq ?_ | refine XV.loop ?_ | refine XV.hit ?_ | refine XV.pass (by decide) ?_ | refine V.condT rfl (by rfl) ?_ | refine V.condF rfl (by rfl) ?_ | refine V.region tm no_specs rfl (by conv => lhs; simp [h1, h2]) fun _ => ?_ | refine V.regionD tm no_specs rfl (by conv => lhs; simp [h1, h2]) (by conv => lhs; simp) (by kernel_rfl) fun _ => ?_)
        simp only [List.length_cons, rowB]
        refine retM2_ok false [0, 96] [0, 0] ?_
        simp [retM2, movedOK, oldOK, frqT, frqV, frqVs, frqL, frq1, expG, expB3, renB, AV.ren, renL, List.range, List.range.loop, resVs, resV, pack, List.zipWith, List.idxOf?, List.findIdx?, List.findIdx?.go]
    · cases hS
  · cases hS
theorem clone165_ok : FnC Tryz.prog 165 (cloneC 202 4 32) := by
  refine FnC.ofV 165 (fn := Tryz.f165) Tryz.func165 rfl (by kernel_rfl) fun args B r B' hS => ?_
  unfold cloneC at hS
  split at hS
  · simp only [Option.some.injEq, Prod.mk.injEq] at hS
    obtain ⟨rfl, rfl⟩ := hS
    refine ⟨by simp, ?_⟩
    change V _ (RetM _ _ 0 _ _) _ _ ⟨8, [(0, .nils)], []⟩
    repeat (first | refine NV.seq ?_ | refine NV.blk ?_ | refine V.seq rfl ?_ | refine V.block rfl ?_ | refine V.skip rfl ?_ | refine V.ret rfl ?_ | refine NV.nil ?_ | refine NV.loop ?_ | refine V.exit rfl ?_ | refine XV.seq ?_ | refine XV.loop ?_ | refine XV.hit ?_ | refine XV.pass (by decide) ?_ | refine V.condT rfl (by rfl) ?_ | refine V.condF rfl (by rfl) ?_ | refine V.region tm no_specs rfl (by conv => lhs; simp) fun _ => ?_ | refine V.regionD tm no_specs rfl (by conv => lhs; simp) (by conv => lhs; simp) (by kernel_rfl) fun _ => ?_)
    refine retM2_ok false [] [] ?_
    simp [retM2, movedOK, oldOK, frqT, frqV, frqVs, frqL, frq1, expG, expB3, renB, AV.ren, renL, List.range, List.range.loop, resVs, resV, pack, List.zipWith, List.idxOf?, List.findIdx?, List.findIdx?.go]
  · rename_i s rows
    split at hS
    · rename_i hc
      obtain ⟨rfl, h1, h1', h2⟩ := hc
      simp only [Option.some.injEq, Prod.mk.injEq] at hS
      obtain ⟨rfl, rfl⟩ := hS
      refine ⟨by simp, ?_⟩
      change V _ (RetM _ _ 0 _ _) _ _ ⟨8, [(0, .list 4 rows)], []⟩
      cases rows with
      | nil =>
        refine V.nilCase (t := 0) (s := 4) 0 rfl rfl ?_ ?_
        · repeat (first | refine NV.seq ?_ | refine NV.blk ?_ | refine V.seq rfl ?_ | refine V.block rfl ?_ | refine V.skip rfl ?_ | refine NV.nil ?_ | refine NV.loop ?_ | refine V.exit rfl ?_ | refine XV.seq ?_ | refine XV.loop ?_ | refine XV.hit ?_ | refine XV.pass (by decide) ?_ | refine V.condT rfl (by rfl) ?_ | refine V.condF rfl (by rfl) ?_ | refine V.region tm no_specs rfl (by conv => lhs; simp) fun _ => ?_ | refine V.regionD tm no_specs rfl (by conv => lhs; simp) (by conv => lhs; simp) (by kernel_rfl) fun _ => ?_)
          refine V.phantom (t := 2) 100 202 4 rfl rfl (by decide) ?_
          repeat (first | refine NV.seq ?_ | refine NV.blk ?_ | refine V.seq rfl ?_ | refine V.block rfl ?_ | refine V.skip rfl ?_ | refine V.ret rfl ?_ | refine NV.nil ?_ | refine NV.loop ?_ | refine V.exit rfl ?_ | refine XV.seq ?_ | refine XV.loop ?_ | refine XV.hit ?_ | refine XV.pass (by decide) ?_ | refine V.condT rfl (by rfl) ?_ | refine V.condF rfl (by rfl) ?_ | refine V.region tm no_specs rfl (by conv => lhs; simp) fun _ => ?_ | refine V.regionD tm no_specs rfl (by conv => lhs; simp) (by conv => lhs; simp) (by kernel_rfl) fun _ => ?_)
          simp only [List.length_nil, rowB]
          refine retM2_ok false [100] [0] ?_
          simp [retM2, movedOK, oldOK, frqT, frqV, frqVs, frqL, frq1, expG, expB3, renB, AV.ren, renL, List.range, List.range.loop, resVs, resV, pack, List.zipWith, List.idxOf?, List.findIdx?, List.findIdx?.go]
        · repeat (first | refine NV.seq ?_ | refine NV.blk ?_ | refine V.seq rfl ?_ | refine V.block rfl ?_ | refine V.skip rfl ?_ | refine V.ret rfl ?_ | refine NV.nil ?_ | refine NV.loop ?_ | refine V.exit rfl ?_ | refine XV.seq ?_ | refine XV.loop ?_ | refine XV.hit ?_ | refine XV.pass (by decide) ?_ | refine V.condT rfl (by rfl) ?_ | refine V.condF rfl (by rfl) ?_ | refine V.region tm no_specs rfl (by conv => lhs; simp) fun _ => ?_ | refine V.regionD tm no_specs rfl (by conv => lhs; simp) (by conv => lhs; simp) (by kernel_rfl) fun _ => ?_)
          simp only [List.length_nil, rowB]
          refine retM2_ok false [96] [0] ?_
          simp [retM2, movedOK, oldOK, frqT, frqV, frqVs, frqL, frq1, expG, expB3, renB, AV.ren, renL, List.range, List.range.loop, resVs, resV, pack, List.zipWith, List.idxOf?, List.findIdx?, List.findIdx?.go]
      | cons x rows =>
        simp only [List.length_cons] at h1 h2 h1'
        try simp only [Nat.mul_one] at h1
        repeat (first | refine NV.seq ?_ | refine NV.blk ?_ | refine V.seq rfl ?_ | refine V.block rfl ?_ | refine V.skip rfl ?_ | refine V.ret rfl ?_ | refine NV.nil ?_ | refine NV.loop ?_ | refine V.exit rfl ?_ | refine XV.seq ?_ | refine XV.loop ?_ | refine XV.hit ?_ | refine XV.pass (by decide) ?_ | refine V.condT rfl (by rfl) ?_ | refine V.condF rfl (by rfl) ?_ | refine V.region tm no_specs rfl (by conv => lhs; simp [h1, h2, h1']) fun _ => ?_ | refine V.regionD tm no_specs rfl (by conv => lhs; simp [h1, h2, h1']) (by conv => lhs; simp) (by kernel_rfl) fun _ => ?_)
        simp only [List.length_cons, rowB]
        refine retM2_ok false [96] [0] ?_
        simp [retM2, movedOK, oldOK, frqT, frqV, frqVs, frqL, frq1, expG, expB3, renB, AV.ren, renL, List.range, List.range.loop, resVs, resV, pack, List.zipWith, List.idxOf?, List.findIdx?, List.findIdx?.go]
    · cases hS
  · rename_i len b
    split at hS
    · rename_i hc
      obtain ⟨hb, rfl, h1, h2⟩ := hc
      simp only [Option.some.injEq, Prod.mk.injEq] at hS
      obtain ⟨rfl, rfl⟩ := hS
      rw [okB_eq hb]
      generalize b.rows = rows at h1 h2 ⊢
      refine ⟨by simp, ?_⟩
      change V _ (RetM _ _ 1 _ _) _ _ ⟨8, [(0, .sl 0 0 0 rows.length)], [(0, { gen := 0, kind := 2, elem := 202, size := 4, inl := true, rows })]⟩
      cases rows with
      | nil =>
        refine V.slNil (t := 0) 1 rfl rfl rfl rfl ?_ ?_
        · repeat (first | refine NV.seq ?_ | refine NV.blk ?_ | refine V.seq rfl ?_ | refine V.block rfl ?_ | refine V.skip rfl ?_ | refine NV.nil ?_ | refine NV.loop ?_ | refine V.exit rfl ?_ | refine XV.seq ?_ | refine XV.loop ?_ | refine XV.hit ?_ | refine XV.pass (by decide) ?_ | refine V.condT rfl (by rfl) ?_ | refine V.condF rfl (by rfl) ?_ | refine V.region tm no_specs rfl (by conv => lhs; simp) fun _ => ?_ | refine V.regionD tm no_specs rfl (by conv => lhs; simp) (by conv => lhs; simp) (by kernel_rfl) fun _ => ?_)
          refine V.phantom (t := 2) 100 202 4 rfl rfl (by decide) ?_
          repeat (first | refine NV.seq ?_ | refine NV.blk ?_ | refine V.seq rfl ?_ | refine V.block rfl ?_ | refine V.skip rfl ?_ | refine V.ret rfl ?_ | refine NV.nil ?_ | refine NV.loop ?_ | refine V.exit rfl ?_ | refine XV.seq ?_ | refine XV.loop ?_ | refine XV.hit ?_ | refine XV.pass (by decide) ?_ | refine V.condT rfl (by rfl) ?_ | refine V.condF rfl (by rfl) ?_ | refine V.region tm no_specs rfl (by conv => lhs; simp) fun _ => ?_ | refine V.regionD tm no_specs rfl (by conv => lhs; simp) (by conv => lhs; simp) (by kernel_rfl) fun _ => ?_)
          simp only [List.length_nil, rowB]
          refine retM2_ok false [0, 100] [0, 0] ?_
          simp [retM2, movedOK, oldOK, frqT, frqV, frqVs, frqL, frq1, expG, expB3, renB, AV.ren, renL, List.range, List.range.loop, resVs, resV, pack, List.zipWith, List.idxOf?, List.findIdx?, List.findIdx?.go]
        · repeat (first | refine NV.seq ?_ | refine NV.blk ?_ | refine V.seq rfl ?_ | refine V.block rfl ?_ | refine V.skip rfl ?_ | refine V.ret rfl ?_ | refine NV.nil ?_ | refine NV.loop ?_ | refine V.exit rfl ?_ | refine XV.seq ?_ | refine XV.loop ?_ | refine XV.hit ?_ | refine XV.pass (by decide) ?_ | refine V.condT rfl (by rfl) ?_ | refine V.condF rfl (by rfl) ?_ | refine V.region tm no_specs rfl (by conv => lhs; simp) fun _ => ?_ | refine V.regionD tm no_specs rfl (by conv => lhs; simp) (by conv => lhs; simp) (by kernel_rfl) fun _ => ?_)
          simp only [List.length_nil, rowB]
          refine retM2_ok false [0, 96] [0, 0] ?_
          simp [retM2, movedOK, oldOK, frqT, frqV, frqVs, frqL, frq1, expG, expB3, renB, AV.ren, renL, List.range, List.range.loop, resVs, resV, pack, List.zipWith, List.idxOf?, List.findIdx?, List.findIdx?.go]
      | cons x rows =>
        simp only [List.length_cons] at h1 h2
        try simp only [Nat.mul_one] at h1
        repeat (first | refine NV.seq ?_ | refine NV.blk ?_ | refine V.seq rfl ?_ | refine V.block rfl ?_ | refine V.skip rfl ?_ | refine V.ret rfl ?_ | refine NV.nil ?_ | refine NV.loop ?_ | refine V.exit rfl ?_ | refine XV.seq ?_ | refine XV.loop ?_ | refine XV.hit ?_ | refine XV.pass (by decide) ?_ | refine V.condT rfl (by rfl) ?_ | refine V.condF rfl (by rfl) ?_ | refine V.region tm no_specs rfl (by conv => lhs; simp [h1, h2]) fun _ => ?_ | refine V.regionD tm no_specs rfl (by conv => lhs; simp [h1, h2]) (by conv => lhs; simp) (by kernel_rfl) fun _ => ?_)
        simp only [List.length_cons, rowB]
        refine retM2_ok false [0, 96] [0, 0] ?_
        simp [retM2, movedOK, oldOK, frqT, frqV, frqVs, frqL, frq1, expG, expB3, renB, AV.ren, renL, List.range, List.range.loop, resVs, resV, pack, List.zipWith, List.idxOf?, List.findIdx?, List.findIdx?.go]
    · cases hS
  · cases hS
theorem clone166_ok : FnC Tryz.prog 166 (cloneC 9 1 16) := by
  refine FnC.ofV 166 (fn := Tryz.f166) Tryz.func166 rfl (by kernel_rfl) fun args B r B' hS => ?_
  unfold cloneC at hS
  split at hS
  · simp only [Option.some.injEq, Prod.mk.injEq] at hS
    obtain ⟨rfl, rfl⟩ := hS
    refine ⟨by simp, ?_⟩
    change V _ (RetM _ _ 0 _ _) _ _ ⟨8, [(0, .nils)], []⟩
    repeat (first | refine NV.seq ?_ | refine NV.blk ?_ | refine V.seq rfl ?_ | refine V.block rfl ?_ | refine V.skip rfl ?_ | refine V.ret rfl ?_ | refine NV.nil ?_ | refine NV.loop ?_ | refine V.exit rfl ?_ | refine XV.seq ?_ | refine XV.loop ?_ | refine XV.hit ?_ | refine XV.pass (by decide) ?_ | refine V.condT rfl (by rfl) ?_ | refine V.condF rfl (by rfl) ?_ | refine V.region tm no_specs rfl (by conv => lhs; simp) fun _ => ?_ | refine V.regionD tm no_specs rfl (by conv => lhs; simp) (by conv => lhs; simp) (by kernel_rfl) fun _ => ?_)
    refine retM2_ok false [] [] ?_
    simp [retM2, movedOK, oldOK, frqT, frqV, frqVs, frqL, frq1, expG, expB3, renB, AV.ren, renL, List.range, List.range.loop, resVs, resV, pack, List.zipWith, List.idxOf?, List.findIdx?, List.findIdx?.go]
  · rename_i s rows
    split at hS
    · rename_i hc
      obtain ⟨rfl, h1, h1', h2⟩ := hc
      simp only [Option.some.injEq, Prod.mk.injEq] at hS
      obtain ⟨rfl, rfl⟩ := hS
      refine ⟨by simp, ?_⟩
      change V _ (RetM _ _ 0 _ _) _ _ ⟨8, [(0, .list 1 rows)], []⟩
      cases rows with
      | nil =>
        refine V.nilCase (t := 0) (s := 1) 0 rfl rfl ?_ ?_
        · repeat (first | refine NV.seq ?_ | refine NV.blk ?_ | refine V.seq rfl ?_ | refine V.block rfl ?_ | refine V.skip rfl ?_ | refine NV.nil ?_ | refine NV.loop ?_ | refine V.exit rfl ?_ | refine XV.seq ?_ | refine XV.loop ?_ | refine XV.hit ?_ | refine XV.pass (by decide) ?_ | refine V.condT rfl (by rfl) ?_ | refine V.condF rfl (by rfl) ?_ | refine V.region tm no_specs rfl (by conv => lhs; simp) fun _ => ?_ | refine V.regionD tm no_specs rfl (by conv => lhs; simp) (by conv => lhs; simp) (by kernel_rfl) fun _ => ?_)
          refine V.phantom (t := 2) 100 9 1 rfl rfl (by decide) ?_
          repeat (first | refine NV.seq ?_ | refine NV.blk ?_ | refine V.seq rfl ?_ | refine V.block rfl ?_ | refine V.skip rfl ?_ | refine V.ret rfl ?_ | refine NV.nil ?_ | refine NV.loop ?_ | refine V.exit rfl ?_ | refine XV.seq ?_ | refine XV.loop ?_ | refine XV.hit ?_ | refine XV.pass (by decide) ?_ | refine V.condT rfl (by rfl) ?_ | refine V.condF rfl (by rfl) ?_ | refine V.region tm no_specs rfl (by conv => lhs; simp) fun _ => ?_ | refine V.regionD tm no_specs rfl (by conv => lhs; simp) (by conv => lhs; simp) (by kernel_rfl) fun _ => ?_)
          simp only [List.length_nil, rowB]
          refine retM2_ok false [100] [0] ?_
          simp [retM2, movedOK, oldOK, frqT, frqV, frqVs, frqL, frq1, expG, expB3, renB, AV.ren, renL, List.range, List.range.loop, resVs, resV, pack, List.zipWith, List.idxOf?, List.findIdx?, List.findIdx?.go]
        · repeat (first | refine NV.seq ?_ | refine NV.blk ?_ | refine V.seq rfl ?_ | refine V.block rfl ?_ | refine V.skip rfl ?_ | refine V.ret rfl ?_ | refine NV.nil ?_ | refine NV.loop ?_ | refine V.exit rfl ?_ | refine XV.seq ?_ | refine XV.loop ?_ | refine XV.hit ?_ | refine XV.pass (by decide) ?_ | refine V.condT rfl (by rfl) ?_ | refine V.condF rfl (by rfl) ?_ | refine V.region tm no_specs rfl (by conv => lhs; simp) fun _ => ?_ | refine V.regionD tm no_specs rfl (by conv => lhs; simp) (by conv => lhs; simp) (by kernel_rfl) fun _ => ?_)
          simp only [List.length_nil, rowB]
          refine retM2_ok false [96] [0] ?_
          simp [retM2, movedOK, oldOK, frqT, frqV, frqVs, frqL, frq1, expG, expB3, renB, AV.ren, renL, List.range, List.range.loop, resVs, resV, pack, List.zipWith, List.idxOf?, List.findIdx?, List.findIdx?.go]
      | cons x rows =>
        simp only [List.length_cons] at h1 h2 h1'
        try simp only [Nat.mul_one] at h1
        repeat (first | refine NV.seq ?_ | refine NV.blk ?_ | refine V.seq rfl ?_ | refine V.block rfl ?_ | refine V.skip rfl ?_ | refine V.ret rfl ?_ | refine NV.nil ?_ | refine NV.loop ?_ | refine V.exit rfl ?_ | refine XV.seq ?_ | refine XV.loop ?_ | refine XV.hit ?_ | refine XV.pass (by decide) ?_ | refine V.condT rfl (by rfl) ?_ | refine V.condF rfl (by rfl) ?_ | refine V.region tm no_specs rfl (by conv => lhs; simp [h1, h2, h1']) fun _ => ?_ | refine V.regionD tm no_specs rfl (by conv => lhs; simp [h1, h2, h1']) (by conv => lhs; simp) (by kernel_rfl) fun _ => ?_)
        simp only [List.length_cons, rowB]
        refine retM2_ok false [96] [0] ?_
        simp [retM2, movedOK, oldOK, frqT, frqV, frqVs, frqL, frq1, expG, expB3, renB, AV.ren, renL, List.range, List.range.loop, resVs, resV, pack, List.zipWith, List.idxOf?, List.findIdx?, List.findIdx?.go]
    · cases hS
  · rename_i len b
    split at hS
    · rename_i hc
      obtain ⟨hb, rfl, h1, h2⟩ := hc
      simp only [Option.some.injEq, Prod.mk.injEq] at hS
      obtain ⟨rfl, rfl⟩ := hS
      rw [okB_eq hb]
      generalize b.rows = rows at h1 h2 ⊢
      refine ⟨by simp, ?_⟩
      change V _ (RetM _ _ 1 _ _) _ _ ⟨8, [(0, .sl 0 0 0 rows.length)], [(0, { gen := 0, kind := 2, elem := 9, size := 1, inl := true, rows })]⟩
      cases rows with
      | nil =>
        refine V.slNil (t := 0) 1 rfl rfl rfl rfl ?_ ?_
        · repeat (first | refine NV.seq ?_ | refine NV.blk ?_ | refine V.seq rfl ?_ | refine V.block rfl ?_ | refine V.skip rfl ?_ | refine NV.nil ?_ | refine NV.loop ?_ | refine V.exit rfl ?_ | refine XV.seq ?_ | refine XV.loop ?_ | refine XV.hit ?_ | refine XV.pass (by decide) ?_ | refine V.condT rfl (by rfl) ?_ | refine V.condF rfl (by rfl) ?_ | refine V.region tm no_specs rfl (by conv => lhs; simp) fun _ => ?_ | refine V.regionD tm no_specs rfl (by conv => lhs; simp) (by conv => lhs; simp) (by kernel_rfl) fun _ => ?_)
          refine V.phantom (t := 2) 100 9 1 rfl rfl (by decide) ?_
          repeat (first | refine NV.seq ?_ | refine NV.blk ?_ | refine V.seq rfl ?_ | refine V.block rfl ?_ | refine V.skip rfl ?_ | refine V.ret rfl ?_ | refine NV.nil ?_ | refine NV.loop ?_ | refine V.exit rfl ?_ | refine XV.seq ?_ | refine XV.loop ?_ | refine XV.hit ?_ | refine XV.pass (by decide) ?_ | refine V.condT rfl (by rfl) ?_ | refine V.condF rfl (by rfl) ?_ | refine V.region tm no_specs rfl (by conv => lhs; simp) fun _ => ?_ | refine V.regionD tm no_specs rfl (by conv => lhs; simp) (by conv => lhs; simp) (by kernel_rfl) fun _ => ?_)
          simp only [List.length_nil, rowB]
          refine retM2_ok false [0, 100] [0, 0] ?_
          simp [retM2, movedOK, oldOK, frqT, frqV, frqVs, frqL, frq1, expG, expB3, renB, AV.ren, renL, List.range, List.range.loop, resVs, resV, pack, List.zipWith, List.idxOf?, List.findIdx?, List.findIdx?.go]
        · repeat (first | refine NV.seq ?_ | refine NV.blk ?_ | refine V.seq rfl ?_ | refine V.block rfl ?_ | refine V.skip rfl ?_ | refine V.ret rfl ?_ | refine NV.nil ?_ | refine NV.loop ?_ | refine V.exit rfl ?_ | refine XV.seq ?_ | refine XV.loop ?_ | refine XV.hit ?_ | refine XV.pass (by decide) ?_ | refine V.condT rfl (by rfl) ?_ | refine V.condF rfl (by rfl) ?_ | refine V.region tm no_specs rfl (by conv => lhs; simp) fun _ => ?_ | refine V.regionD tm no_specs rfl (by conv => lhs; simp) (by conv => lhs; simp) (by kernel_rfl) fun _ => ?_)
          simp only [List.length_nil, rowB]
          refine retM2_ok false [0, 96] [0, 0] ?_
          simp [retM2, movedOK, oldOK, frqT, frqV, frqVs, frqL, frq1, expG, expB3, renB, AV.ren, renL, List.range, List.range.loop, resVs, resV, pack, List.zipWith, List.idxOf?, List.findIdx?, List.findIdx?.go]
      | cons x rows =>
        simp only [List.length_cons] at h1 h2
        try simp only [Nat.mul_one] at h1
        repeat (first | refine NV.seq ?_ | refine NV.blk ?_ | refine V.seq rfl ?_ | refine V.block rfl ?_ | refine V.skip rfl ?_ | refine V.ret rfl ?_ | refine NV.nil ?_ | refine NV.loop ?_ | refine V.exit rfl ?_ | refine XV.seq ?_ | refine XV.loop ?_ | refine XV.hit ?_ | refine XV.pass (by decide) ?_ | refine V.condT rfl (by rfl) ?_ | refine V.condF rfl (by rfl) ?_ | refine V.region tm no_specs rfl (by conv => lhs; simp [h1, h2]) fun _ => ?_ | refine V.regionD tm no_specs rfl (by conv => lhs; simp [h1, h2]) (by conv => lhs; simp) (by kernel_rfl) fun _ => ?_)
        simp only [List.length_cons, rowB]
        refine retM2_ok false [0, 96] [0, 0] ?_
        simp [retM2, movedOK, oldOK, frqT, frqV, frqVs, frqL, frq1, expG, expB3, renB, AV.ren, renL, List.range, List.range.loop, resVs, resV, pack, List.zipWith, List.idxOf?, List.findIdx?, List.findIdx?.go]
    · cases hS
  · cases hS
theorem tdInj {β : Type} {t : TypeId} {f : Td Tryz.prog t → β} : ∀ x y : Td Tryz.prog t, [AV.agg x.cells] = [AV.agg y.cells] → f x = f y := fun x y h => by
  simp only [List.cons.injEq, AV.agg.injEq, and_true] at h
  rw [Td.ext h]
abbrev Prg := Td Tryz.prog 31
noncomputable def cprS : SpecFn := mkS (fun d : Prg => [.agg d.cells]) fun d => (.agg d.cells, [])
theorem cprS_eq (d : Prg) : cprS [.agg d.cells] [] = some (.agg d.cells, []) := mkS_eq (enc := fun d : Prg => [AV.agg d.cells]) tdInj d
noncomputable def cpr_specs : NL Spec := [(165, ⟨1, datS (cloneC 202 4 32)⟩), (166, ⟨1, datS (cloneC 9 1 16)⟩)]
theorem cpr_specs_ok : ∀ p ∈ cpr_specs, FnC Tryz.prog p.1 p.2.fn := by
  simp only [cpr_specs, List.mem_cons, List.not_mem_nil, or_false]
  rintro p (rfl | rfl)
  · exact clone165_ok.dat
  · exact clone166_ok.dat
attribute [local simp] cpr_specs
theorem cpr_ok : FnC Tryz.prog 143 cprS := by
  refine FnC.walk 143 (fn := Tryz.f143) Tryz.func143 rfl (by kernel_rfl) fun d => ?_
  obtain ⟨cs, ty, bd⟩ := d
  obtain ⟨x0, x1, x2, rfl, -, -, -⟩ := viewProgram ty
  simp only [bdL, bdV, Bool.and_eq_true, decide_eq_true_eq, Bool.and_true] at bd
  have c0 := datS_clone 202 4 32 x0 bd.1.1 (by decide)
  have c1 := datS_clone 9 1 16 x1 bd.2.1 (by decide)
  change W _ (Ret _ _ _ _) _ _ ⟨12, [(0, .agg [.list 4 x0, .list 1 x1, .int .i64 x2])], []⟩
  repeat (first | refine ZS ?_ | refine ZK tm cpr_specs_ok rfl (by conv => lhs; simp [c0, c1]) fun _ => ?_ | refine ZL tm cpr_specs_ok rfl (by conv => lhs; simp [c0, c1]) fun _ => ?_)
  first | exact Ret.dataR rfl (by conv => lhs; simp) (by conv => lhs; simp) (by first | rfl | simp [inlT, inlV]) | fail "no return here"
abbrev Prc := Td Tryz.prog 38
noncomputable def cpcS : SpecFn := mkS (fun d : Prc => [.agg d.cells]) fun d => (.agg d.cells, [])
theorem cpcS_eq (d : Prc) : cpcS [.agg d.cells] [] = some (.agg d.cells, []) := mkS_eq (enc := fun d : Prc => [AV.agg d.cells]) tdInj d
noncomputable def cpc_specs : NL Spec := [(100, ⟨1, datS (cloneC 26 1 8)⟩), (141, ⟨1, datS (cloneC 178 2 16)⟩), (142, ⟨1, datS (cloneC 181 4 32)⟩), (143, ⟨1, cprS⟩)]
theorem cpc_specs_ok : ∀ p ∈ cpc_specs, FnC Tryz.prog p.1 p.2.fn := by
  simp only [cpc_specs, List.mem_cons, List.not_mem_nil, or_false]
  rintro p (rfl | rfl | rfl | rfl)
  · exact clone100_ok.dat
  · exact clone141_ok.dat
  · exact clone142_ok.dat
  · exact cpr_ok
attribute [local simp] cpc_specs
theorem cpc_ok : FnC Tryz.prog 97 cpcS := by
  refine FnC.walk 97 (fn := Tryz.f97) Tryz.func97 rfl (by kernel_rfl) fun d => ?_
  obtain ⟨cs, ty, bd⟩ := d
  obtain ⟨x0, x1, x2, x3, x4, x5, x6, x7, x8, x9, rfl, -, -, -, h3, h4, -, -, -, -, -⟩ := viewProcess ty
  obtain ⟨y0, y1, y2, rfl, -, -, -⟩ := viewProgram h3
  obtain ⟨z0, z1, z2, z3, z4, z5, z6, z7, z8, rfl, -⟩ := viewCPU h4
  simp only [List.cons_append, List.nil_append, bdL, bdV, Bool.and_eq_true, decide_eq_true_eq, Bool.and_true, Bool.true_and, true_and] at bd
  have b3 : bdL 10000 [AV.list 4 y0, AV.list 1 y1, AV.int .i64 y2] = true := by simp [bdL, bdV, bd]
  have cP := cprS_eq ⟨_, h3, b3⟩
  have c2 := datS_clone 26 1 8 x2 (by simp [bd]) (by decide)
  have c5 := datS_clone 178 2 16 x5 (by simp [bd]) (by decide)
  have c6 := datS_clone 181 4 32 x6 (by simp [bd]) (by decide)
  dsimp only at cP
  change W _ (Ret _ _ (.agg [.int .i64 x0, .int .u64 x1, .list 1 x2, .list 4 y0, .list 1 y1, .int .i64 y2, .int .i64 z0, .int .i64 z1, .int .i64 z2, .int .i64 z3, .int .i64 z4, .int .i64 z5, .int .i64 z6, .int .i64 z7, .int .i64 z8, .list 2 x5, .list 4 x6, .int .i64 x7, .int .i64 x8, .int .i64 x9]) _) _ _ ⟨20, [(0, .agg [.int .i64 x0, .int .u64 x1, .list 1 x2, .list 4 y0, .list 1 y1, .int .i64 y2, .int .i64 z0, .int .i64 z1, .int .i64 z2, .int .i64 z3, .int .i64 z4, .int .i64 z5, .int .i64 z6, .int .i64 z7, .int .i64 z8, .list 2 x5, .list 4 x6, .int .i64 x7, .int .i64 x8, .int .i64 x9])], []⟩
  repeat (first | refine ZS ?_ | refine ZK tm cpc_specs_ok rfl (by conv => lhs; simp [cP, c2, c5, c6]) fun _ => ?_ | refine ZL tm cpc_specs_ok rfl (by conv => lhs; simp [cP, c2, c5, c6]) fun _ => ?_)
  first | exact Ret.dataR rfl (by conv => lhs; simp) (by conv => lhs; simp) (by first | rfl | simp [inlT, inlV]) | fail "no return here"
end Go.Abs.Nz
namespace Go.Abs.Nz
open Go Go.Proofs Go.Abs
set_option maxRecDepth 100000
set_option maxHeartbeats 4000000
set_option linter.unusedSimpArgs false
set_option linter.unusedVariables false
attribute [local simp] instA slice3A slice3C
abbrev Ob := Td Tryz.prog 44
noncomputable def cobS : SpecFn := mkS (fun d : Ob => [.agg d.cells]) fun d => (.agg d.cells, [])
theorem cobS_eq (d : Ob) : cobS [.agg d.cells] [] = some (.agg d.cells, []) := mkS_eq (enc := fun d : Ob => [AV.agg d.cells]) tdInj d
noncomputable def cob_specs : NL Spec := [(100, ⟨1, datS (cloneC 26 1 8)⟩), (98, ⟨1, datS (cloneC 2 1 8)⟩), (99, ⟨1, datS (cloneC 5 1 1)⟩), (101, ⟨3, cloneC 94 3 48⟩), (97, ⟨1, cpcS⟩)]
theorem cob_specs_ok : ∀ p ∈ cob_specs, FnC Tryz.prog p.1 p.2.fn := by
  simp only [cob_specs, List.mem_cons, List.not_mem_nil, or_false]
  rintro p (rfl | rfl | rfl | rfl | rfl)
  · exact clone100_ok.dat
  · exact clone98_ok.dat
  · exact clone99_ok.dat
  · exact clone101_ok
  · exact cpc_ok
attribute [local simp] cob_specs
theorem nameRow {r : List AV} (h : TyR Tryz.prog 8 94 r) (b : bdL 10000 r = true) : ∃ s n ids, r = [.str s, .int .i64 n, .list 1 ids] ∧ ids.length ≤ 10000 := by
  obtain ⟨s, n, ids, rfl, -, -⟩ := viewName h
  simp only [bdL, bdV, Bool.and_eq_true, decide_eq_true_eq, Bool.and_true, Bool.true_and, true_and] at b
  exact ⟨s, n, ids, rfl, b.1⟩
theorem get_lt {α : Type} {l : List α} {i : Nat} (h : i < l.length) : ∃ x, l[i]? = some x := ⟨_, List.getElem?_eq_getElem h⟩
theorem w64 {a : Int} (h1 : -9223372036854775808 ≤ a) (h2 : a ≤ 9223372036854775807) : IntKind.i64.wrap a = a := by
  simp [IntKind.wrap, IntKind.bits, IntKind.signed]; omega
theorem set_self {α : Type} {l : List α} {k : Nat} {x : α} (h : l[k]? = some x) : l.set k x = l := by
  apply List.ext_getElem?
  intro i
  rw [List.getElem?_set]
  split
  · rename_i e; subst e
    split
    · exact h.symm
    · rename_i e2; exact absurd (List.getElem?_eq_some_iff.1 h).1 e2
  · rfl
theorem capT {n : Nat} (h : n ≤ 10000) : n ≤ maxLen := by simp only [maxLen]; omega
def zO : List AV := [.int .u64 0, .int .i64 0, .int .i64 0, .int .i64 0, .int .u64 0, .nils, .nils, .nils, .int .i64 0, .int .i64 0, .int .i64 0, .int .i64 0, .int .i64 0, .int .i64 0, .int .i64 0, .int .i64 0, .int .i64 0, .int .i64 0, .nils, .nils, .int .i64 0, .int .i64 0, .int .i64 0, .nils, .nils, .int .i64 0, .int .u64 0, .int .i64 0, .int .i64 0, .nils, .nils, .nils, .int .i64 0, .int .i64 0, .int .i64 0, .nils]
def zOB : ABlk := { gen := 1, kind := 2, elem := 44, size := 36, inl := false, rows := [zO] }
def nmB (rows : List (List AV)) : ABlk := { gen := 1, kind := 2, elem := 94, size := 3, inl := true, rows }
theorem cob_ok : FnC Tryz.prog 45 cobS := by
  refine FnC.walk 45 (fn := Tryz.f45) Tryz.func45 rfl (by kernel_rfl) fun d => ?_
  obtain ⟨cs, ty, bd⟩ := d
  obtain ⟨x0, x1, x2, xp, x4, x5, x6, x7, x8, x9, x10, x11, x12, x13, x14, x15, x16, rfl, -, -, -, hp, -, -, -, -, -, -, -, -, -, -, -, -, h16⟩ := viewObject ty
  have bp : bdL 10000 xp = true := by simp only [bdL, bdV, bdL_append, Bool.and_eq_true, Bool.true_and, true_and] at bd; exact bd.1
  have cP := cpcS_eq ⟨xp, hp, bp⟩
  obtain ⟨p0, p1, p2, p3, p4, p5, p6, p7, p8, p9, rfl, -, -, -, h3, h4, -, -, -, -, -⟩ := viewProcess hp
  obtain ⟨q0, q1, q2, rfl, -, -, -⟩ := viewProgram h3
  obtain ⟨z0, z1, z2, z3, z4, z5, z6, z7, z8, rfl, -⟩ := viewCPU h4
  simp only [List.cons_append, List.nil_append, bdL, bdV, Bool.and_eq_true, decide_eq_true_eq, Bool.and_true, Bool.true_and, true_and] at bd
  simp only [List.cons_append, List.nil_append] at cP
  have c4 := datS_clone 2 1 8 x4 (by simp [bd]) (by decide)
  have c5 := datS_clone 5 1 1 x5 (by simp [bd]) (by decide)
  have c10 := datS_clone 26 1 8 x10 (by simp [bd]) (by decide)
  have c11 := datS_clone 5 1 1 x11 (by simp [bd]) (by decide)
  have c12 := datS_clone 5 1 1 x12 (by simp [bd]) (by decide)
  have l16 : x16.length ≤ 10000 := by simp [bd]
  have r16 : ∀ r ∈ x16, bdL 10000 r = true := fun r hr => bdRows_mem (by simp [bd]) hr
  have c16 : cloneC 94 3 48 [.list 3 x16] [] = some (.sl 0 0 0 x16.length, [{ gen := 0, kind := 2, elem := 94, size := 3, inl := true, rows := x16 }]) := by
    have e1 : x16.length * 48 ≤ 140737488355328 := by omega
    have e2 : x16.length ≤ 9223372036854775807 := by omega
    simp [cloneC, e1, e2, capT l16, rowB]
  change W _ (Ret _ _ (.agg [.int .u64 x0, .int .i64 x1, .int .i64 x2, .int .i64 p0, .int .u64 p1, .list 1 p2, .list 4 q0, .list 1 q1, .int .i64 q2, .int .i64 z0, .int .i64 z1, .int .i64 z2, .int .i64 z3, .int .i64 z4, .int .i64 z5, .int .i64 z6, .int .i64 z7, .int .i64 z8, .list 2 p5, .list 4 p6, .int .i64 p7, .int .i64 p8, .int .i64 p9, .list 1 x4, .list 1 x5, .int .i64 x6, .int .u64 x7, .int .i64 x8, .int .i64 x9, .list 1 x10, .list 1 x11, .list 1 x12, .int .i64 x13, .int .i64 x14, .int .i64 x15, .list 3 x16]) []) _ _ ⟨57, [(0, .agg [.int .u64 x0, .int .i64 x1, .int .i64 x2, .int .i64 p0, .int .u64 p1, .list 1 p2, .list 4 q0, .list 1 q1, .int .i64 q2, .int .i64 z0, .int .i64 z1, .int .i64 z2, .int .i64 z3, .int .i64 z4, .int .i64 z5, .int .i64 z6, .int .i64 z7, .int .i64 z8, .list 2 p5, .list 4 p6, .int .i64 p7, .int .i64 p8, .int .i64 p9, .list 1 x4, .list 1 x5, .int .i64 x6, .int .u64 x7, .int .i64 x8, .int .i64 x9, .list 1 x10, .list 1 x11, .list 1 x12, .int .i64 x13, .int .i64 x14, .int .i64 x15, .list 3 x16])], []⟩
  dsimp only
  clear bd bp hp ty
  repeat (first | refine ZS ?_ | refine ZK tm cob_specs_ok rfl (by conv => lhs; simp [cP, c4, c5, c10]) fun _ => ?_ | refine ZL tm cob_specs_ok rfl (by conv => lhs; simp [cP, c4, c5, c10]) fun _ => ?_)
  refine W.loop rfl (ι := { q : Nat × NL ABlk // q.1 ≤ 2 ∧ lk q.2 32 = some { gen := 1, kind := 2, elem := 44, size := 36, inl := false, rows := [[.int .u64 x0, .int .i64 x1, .int .i64 x2, .int .i64 p0, .int .u64 p1, .list 1 p2, .list 4 q0, .list 1 q1, .int .i64 q2, .int .i64 z0, .int .i64 z1, .int .i64 z2, .int .i64 z3, .int .i64 z4, .int .i64 z5, .int .i64 z6, .int .i64 z7, .int .i64 z8, .list 2 p5, .list 4 p6, .int .i64 p7, .int .i64 p8, .int .i64 p9, .list 1 x4, .list 1 x5, .int .i64 x6, .int .u64 x7, .int .i64 x8, .int .i64 x9, .list 1 x10, .list 1 x11, .list 1 x12, .int .i64 x13, .int .i64 x14, .int .i64 x15, .list 3 x16]] } ∧ lk q.2 48 = some zOB ∧ lk q.2 608 = none })
    (fun q => ⟨57, [(1, .ptr 32 1 0 0), (2, .ptr 48 1 0 0), (24, .agg [.list 1 x11, .list 1 x12]), (25, .int .i64 (q.1.1 : Nat))], q.1.2⟩) (fun q => 2 - q.1.1)
    ⟨(0, _), by simp, by rfl, by rfl, by rfl⟩ (AS.le_of rfl ⟨rfl, rfl, rfl, rfl, trivial⟩ (fun _ => rfl)) ?_
  rintro ⟨⟨k, h⟩, hk, h1, h2, h3⟩
  dsimp only at hk h1 h2 h3 ⊢
  by_cases hk2 : k = 2
  · subst hk2
    have g1 : ((lk h 608).getD {}).gen + 1 = 1 := by rw [h3]; rfl
    repeat (first | refine ZS ?_ | refine ZK tm cob_specs_ok rfl (by conv => lhs; simp [h1, h2, zOB, zO, c16]) fun _ => ?_ | refine ZL tm cob_specs_ok rfl (by conv => lhs; simp [h1, h2, zOB, zO, c16]) fun _ => ?_)
    refine W.loop rfl (ι := { q : Nat × NL ABlk // q.1 ≤ x16.length ∧ lk q.2 32 = some { gen := 1, kind := 2, elem := 44, size := 36, inl := false, rows := [[.int .u64 x0, .int .i64 x1, .int .i64 x2, .int .i64 p0, .int .u64 p1, .list 1 p2, .list 4 q0, .list 1 q1, .int .i64 q2, .int .i64 z0, .int .i64 z1, .int .i64 z2, .int .i64 z3, .int .i64 z4, .int .i64 z5, .int .i64 z6, .int .i64 z7, .int .i64 z8, .list 2 p5, .list 4 p6, .int .i64 p7, .int .i64 p8, .int .i64 p9, .list 1 x4, .list 1 x5, .int .i64 x6, .int .u64 x7, .int .i64 x8, .int .i64 x9, .list 1 x10, .list 1 x11, .list 1 x12, .int .i64 x13, .int .i64 x14, .int .i64 x15, .sl 608 1 0 x16.length]] } ∧ lk q.2 48 = some zOB ∧ lk q.2 608 = some (nmB x16) })
      (fun q => ⟨57, [(1, .ptr 32 1 0 0), (2, .ptr 48 1 0 0), (40, .sl 608 1 0 x16.length), (41, .int .i64 x16.length), (42, .int .i64 (q.1.1 : Nat))], q.1.2⟩) (fun q => x16.length - q.1.1)
      ⟨(0, _), by simp, by simp [lk_st, h1, h3], by simp [lk_st, h2], by simp [lk_st, nmB, h3]⟩ (AS.le_of rfl ⟨rfl, rfl, by simp [lk, h3], rfl, rfl, trivial⟩ (fun _ => rfl)) ?_
    clear g1 h1 h2 h3 hk h
    rintro ⟨⟨k, h⟩, hk, h1, h2, h3⟩
    dsimp only at hk h1 h2 h3 ⊢
    by_cases hk2 : k = x16.length
    · subst hk2
      repeat (first | refine ZS ?_ | refine ZK tm cob_specs_ok rfl (by conv => lhs; simp [h1, h2, h3, zOB, zO, nmB]) fun _ => ?_ | refine ZL tm cob_specs_ok rfl (by conv => lhs; simp [h1, h2, h3, zOB, zO, nmB]) fun _ => ?_)
      first | exact Ret.dataR rfl (by conv => lhs; simp [h3, nmB]) (by conv => lhs; simp [h3, nmB]) (by first | rfl | simp [inlT, inlV]) | fail "no return here"
    · have hlt : k < x16.length := by omega
      obtain ⟨r, hr⟩ := get_lt hlt
      have hm := List.mem_of_getElem? hr
      obtain ⟨s, n, ids, rfl, hi⟩ := nameRow (h16 r hm) (r16 r hm)
      have cI := datS_clone 26 1 8 ids hi (by decide)
      have q1 : (k : Int) < x16.length := by omega
      have q2 : ¬ x16.length ≤ k := by omega
      have hw : IntKind.i64.wrap ((k : Int) + 1) = ((k + 1 : Nat) : Int) := w64 (by omega) (by omega)
      have hs := set_self hr
      repeat (first | refine ZS ?_ | refine ZK tm cob_specs_ok rfl (by conv => lhs; simp [h1, h2, h3, nmB, q1, q2, hr, cI, hw, hs]) fun _ => ?_ | refine ZL tm cob_specs_ok rfl (by conv => lhs; simp [h1, h2, h3, nmB, q1, q2, hr, cI, hw, hs]) fun _ => ?_)
      exact ⟨⟨(k + 1, _), hlt, by simp [lk_st, h1], by simp [lk_st, h2], by simp [lk_st, nmB, h3, hs]⟩, by dsimp only; omega, AS.le_of rfl ⟨rfl, rfl, rfl, rfl, rfl, trivial⟩ (fun _ => rfl)⟩
  · have hk3 : k = 0 ∨ k = 1 := by omega
    rcases hk3 with rfl | rfl
    · repeat (first | refine ZS ?_ | refine ZK tm cob_specs_ok rfl (by conv => lhs; simp [h1, h2, c11]) fun _ => ?_ | refine ZL tm cob_specs_ok rfl (by conv => lhs; simp [h1, h2, c11]) fun _ => ?_)
      exact ⟨⟨(1, _), by simp, by simp [lk_st, h1], by simp [lk_st, h2], by simp [lk_st, h3]⟩, by simp, AS.le_of rfl ⟨rfl, rfl, rfl, rfl, trivial⟩ (fun _ => rfl)⟩
    · repeat (first | refine ZS ?_ | refine ZK tm cob_specs_ok rfl (by conv => lhs; simp [h1, h2, c12]) fun _ => ?_ | refine ZL tm cob_specs_ok rfl (by conv => lhs; simp [h1, h2, c12]) fun _ => ?_)
      exact ⟨⟨(2, _), by simp, by simp [lk_st, h1], by simp [lk_st, h2], by simp [lk_st, h3]⟩, by simp, AS.le_of rfl ⟨rfl, rfl, rfl, rfl, trivial⟩ (fun _ => rfl)⟩
end Go.Abs.Nz
