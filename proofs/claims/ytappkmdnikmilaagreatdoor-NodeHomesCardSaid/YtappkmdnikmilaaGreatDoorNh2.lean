/- The example of stations that is checked first. Conditions: none. -/
import Derived.Test.YtappkmdnikmilaaGreatDoorNh1
import Derived.Test.YtappkmdnikmilaaGreatDoorAb6
import Derived.Test.YtappkmdnikmilaaGreatDoorAb8
namespace Go.Abs.Nh
open Go Go.Proofs Go.Abs
set_option maxRecDepth 100000
set_option maxHeartbeats 4000000
set_option linter.unusedSimpArgs false
set_option linter.unusedVariables false
attribute [local simp] slice3A slice3C instA
theorem clone53_ok : FnC Tryz.prog 53 (cloneC 95 41 496) := by
  refine FnC.ofV 53 (fn := Tryz.f53) Tryz.func53 rfl (by kernel_rfl) fun args B r B' hS => ?_
  unfold cloneC at hS
  split at hS
  · simp only [Option.some.injEq, Prod.mk.injEq] at hS
    obtain ⟨rfl, rfl⟩ := hS
    refine ⟨by simp, ?_⟩
    change V _ (RetM _ _ 0 _ _) _ _ ⟨8, [(0, .nils)], []⟩
    repeat (first | refine NV.seq ?_ | refine NV.blk ?_ | refine V.seq rfl ?_ | refine V.block rfl ?_ | refine V.skip rfl ?_ | refine V.ret rfl ?_ | refine NV.nil ?_ | refine NV.loop ?_ | refine V.exit rfl ?_ | refine XV.seq ?_ | refine XV.loop ?_ | refine XV.hit ?_ | refine XV.pass (by decide) ?_ | refine V.condT rfl (by rfl) ?_ | refine V.condF rfl (by rfl) ?_ | refine V.region tm no_specs rfl (by conv => lhs; simp) fun _ => ?_ | refine V.regionD tm no_specs rfl (by conv => lhs; simp) (by conv => lhs; simp) (by kernel_rfl) fun _ => ?_)
    refine retM2_ok false [] [] ?_
    simp [retM2, movedOK, oldOK, frqT, frqV, frqVs, frqL, frq1, expG, expB3, renB, AV.ren, renL, List.range, List.range.loop, resVs, resV, pack, List.zipWith, List.idxOf?, List.findIdx?, List.findIdx?.go]
  · rename_i s rows
    split at hS
    · rename_i hc
      obtain ⟨rfl, h1, h1', h2⟩ := hc
      simp only [Option.some.injEq, Prod.mk.injEq] at hS
      obtain ⟨rfl, rfl⟩ := hS
      refine ⟨by simp, ?_⟩
      change V _ (RetM _ _ 0 _ _) _ _ ⟨8, [(0, .list 41 rows)], []⟩
      cases rows with
      | nil =>
        refine V.nilCase (t := 0) (s := 41) 0 rfl rfl ?_ ?_
        · repeat (first | refine NV.seq ?_ | refine NV.blk ?_ | refine V.seq rfl ?_ | refine V.block rfl ?_ | refine V.skip rfl ?_ | refine NV.nil ?_ | refine NV.loop ?_ | refine V.exit rfl ?_ | refine XV.seq ?_ | refine XV.loop ?_ | refine XV.hit ?_ | refine XV.pass (by decide) ?_ | refine V.condT rfl (by rfl) ?_ | refine V.condF rfl (by rfl) ?_ | refine V.region tm no_specs rfl (by conv => lhs; simp) fun _ => ?_ | refine V.regionD tm no_specs rfl (by conv => lhs; simp) (by conv => lhs; simp) (by kernel_rfl) fun _ => ?_)
          refine V.phantom (t := 2) 100 95 41 rfl rfl (by decide) ?_
          repeat (first | refine NV.seq ?_ | refine NV.blk ?_ | refine V.seq rfl ?_ | refine V.block rfl ?_ | refine V.skip rfl ?_ | refine V.ret rfl ?_ | refine NV.nil ?_ | refine NV.loop ?_ | refine V.exit rfl ?_ | refine XV.seq ?_ | refine XV.loop ?_ | refine XV.hit ?_ | refine XV.pass (by decide) ?_ | refine V.condT rfl (by rfl) ?_ | refine V.condF rfl (by rfl) ?_ | refine V.region tm no_specs rfl (by conv => lhs; simp) fun _ => ?_ | refine V.regionD tm no_specs rfl (by conv => lhs; simp) (by conv => lhs; simp) (by kernel_rfl) fun _ => ?_)
          simp only [List.length_nil, rowB]
          refine retM2_ok false [100] [0] ?_
          simp [retM2, movedOK, oldOK, frqT, frqV, frqVs, frqL, frq1, expG, expB3, renB, AV.ren, renL, List.range, List.range.loop, resVs, resV, pack, List.zipWith, List.idxOf?, List.findIdx?, List.findIdx?.go]
        · repeat (first | refine NV.seq ?_ | refine NV.blk ?_ | refine V.seq rfl ?_ | refine V.block rfl ?_ | refine V.skip rfl ?_ | refine V.ret rfl ?_ | refine NV.nil ?_ | refine NV.loop ?_ | refine V.exit rfl ?_ | refine XV.seq ?_ | refine XV.loop ?_ | refine XV.hit ?_ | refine XV.pass (by decide) ?_ | refine V.condT rfl (by rfl) ?_ | refine V.condF rfl (by rfl) ?_ | refine V.region tm no_specs rfl (by conv => lhs; simp) fun _ => ?_ | refine V.regionD tm no_specs rfl (by conv => lhs; simp) (by conv => lhs; simp) (by kernel_rfl) fun _ => ?_)
          simp only [List.length_nil, rowB]
          refine retM2_ok false [96] [0] ?_
          simp [retM2, movedOK, oldOK, frqT, frqV, frqVs, frqL, frq1, expG, expB3, renB, AV.ren, renL, List.range, List.range.loop, resVs, resV, pack, List.zipWith, List.idxOf?, List.findIdx?, List.findIdx?.go]
      | cons x rows =>
        simp only [List.length_cons] at h1 h2 h1'
        try simp only [Nat.mul_one] at h1
        repeat (first | refine NV.seq ?_ | refine NV.blk ?_ | refine V.seq rfl ?_ | refine V.block rfl ?_ | refine V.skip rfl ?_ | refine V.ret rfl ?_ | refine NV.nil ?_ | refine NV.loop ?_ | refine V.exit rfl ?_ | refine XV.seq ?_ | refine XV.loop ?_ | refine XV.hit ?_ | refine XV.pass (by decide) ?_ | refine V.condT rfl (by rfl) ?_ | refine V.condF rfl (by rfl) ?_ | refine V.region tm no_specs rfl (by conv => lhs; simp [h1, h2, h1']) fun _ => ?_ | refine V.regionD tm no_specs rfl (by conv => lhs; simp [h1, h2, h1']) (by conv => lhs; simp) (by kernel_rfl) fun _ => ?_)
        simp only [List.length_cons, rowB]
        refine retM2_ok false [96] [0] ?_
        simp [retM2, movedOK, oldOK, frqT, frqV, frqVs, frqL, frq1, expG, expB3, renB, AV.ren, renL, List.range, List.range.loop, resVs, resV, pack, List.zipWith, List.idxOf?, List.findIdx?, List.findIdx?.go]
    · cases hS
  · rename_i len b
    split at hS
    · rename_i hc
      obtain ⟨hb, rfl, h1, h2⟩ := hc
      simp only [Option.some.injEq, Prod.mk.injEq] at hS
      obtain ⟨rfl, rfl⟩ := hS
      rw [okB_eq hb]
      generalize b.rows = rows at h1 h2 ⊢
      refine ⟨by simp, ?_⟩
      change V _ (RetM _ _ 1 _ _) _ _ ⟨8, [(0, .sl 0 0 0 rows.length)], [(0, { gen := 0, kind := 2, elem := 95, size := 41, inl := true, rows })]⟩
      cases rows with
      | nil =>
        refine V.slNil (t := 0) 1 rfl rfl rfl rfl ?_ ?_
        · repeat (first | refine NV.seq ?_ | refine NV.blk ?_ | refine V.seq rfl ?_ | refine V.block rfl ?_ | refine V.skip rfl ?_ | refine NV.nil ?_ | refine NV.loop ?_ | refine V.exit rfl ?_ | refine XV.seq ?_ | refine XV.loop ?_ | refine XV.hit ?_ | refine XV.pass (by decide) ?_ | refine V.condT rfl (by rfl) ?_ | refine V.condF rfl (by rfl) ?_ | refine V.region tm no_specs rfl (by conv => lhs; simp) fun _ => ?_ | refine V.regionD tm no_specs rfl (by conv => lhs; simp) (by conv => lhs; simp) (by kernel_rfl) fun _ => ?_)
          refine V.phantom (t := 2) 100 95 41 rfl rfl (by decide) ?_
          repeat (first | refine NV.seq ?_ | refine NV.blk ?_ | refine V.seq rfl ?_ | refine V.block rfl ?_ | refine V.skip rfl ?_ | refine V.ret rfl ?_ | refine NV.nil ?_ | refine NV.loop ?_ | refine V.exit rfl ?_ | refine XV.seq ?_ | refine XV.loop ?_ | refine XV.hit ?_ | refine XV.pass (by decide) ?_ | refine V.condT rfl (by rfl) ?_ | refine V.condF rfl (by rfl) ?_ | refine V.region tm no_specs rfl (by conv => lhs; simp) fun _ => ?_ | refine V.regionD tm no_specs rfl (by conv => lhs; simp) (by conv => lhs; simp) (by kernel_rfl) fun _ => ?_)
          simp only [List.length_nil, rowB]
          refine retM2_ok false [0, 100] [0, 0] ?_
          simp [retM2, movedOK, oldOK, frqT, frqV, frqVs, frqL, frq1, expG, expB3, renB, AV.ren, renL, List.range, List.range.loop, resVs, resV, pack, List.zipWith, List.idxOf?, List.findIdx?, List.findIdx?.go]
        · repeat (first | refine NV.seq ?_ | refine NV.blk ?_ | refine V.seq rfl ?_ | refine V.block rfl ?_ | refine V.skip rfl ?_ | refine V.ret rfl ?_ | refine NV.nil ?_ | refine NV.loop ?_ | refine V.exit rfl ?_ | refine XV.seq ?_ | refine XV.loop ?_ | refine XV.hit ?_ | refine XV.pass (by decide) ?_ | refine V.condT rfl (by rfl) ?_ | refine V.condF rfl (by rfl) ?_ | refine V.region tm no_specs rfl (by conv => lhs; simp) fun _ => ?_ | refine V.regionD tm no_specs rfl (by conv => lhs; simp) (by conv => lhs; simp) (by kernel_rfl) fun _ => ?_)
          simp only [List.length_nil, rowB]
          refine retM2_ok false [0, 96] [0, 0] ?_
          simp [retM2, movedOK, oldOK, frqT, frqV, frqVs, frqL, frq1, expG, expB3, renB, AV.ren, renL, List.range, List.range.loop, resVs, resV, pack, List.zipWith, List.idxOf?, List.findIdx?, List.findIdx?.go]
      | cons x rows =>
        simp only [List.length_cons] at h1 h2
        try simp only [Nat.mul_one] at h1
        repeat (first | refine NV.seq ?_ | refine NV.blk ?_ | refine V.seq rfl ?_ | refine V.block rfl ?_ | refine V.skip rfl ?_ | refine V.ret rfl ?_ | refine NV.nil ?_ | refine NV.loop ?_ | refine V.exit rfl ?_ | refine XV.seq ?_ | refine XV.loop ?_ | refine XV.hit ?_ | refine XV.pass (by decide) ?_ | refine V.condT rfl (by rfl) ?_ | refine V.condF rfl (by rfl) ?_ | refine V.region tm no_specs rfl (by conv => lhs; simp [h1, h2]) fun _ => ?_ | refine V.regionD tm no_specs rfl (by conv => lhs; simp [h1, h2]) (by conv => lhs; simp) (by kernel_rfl) fun _ => ?_)
        simp only [List.length_cons, rowB]
        refine retM2_ok false [0, 96] [0, 0] ?_
        simp [retM2, movedOK, oldOK, frqT, frqV, frqVs, frqL, frq1, expG, expB3, renB, AV.ren, renL, List.range, List.range.loop, resVs, resV, pack, List.zipWith, List.idxOf?, List.findIdx?, List.findIdx?.go]
    · cases hS
  · cases hS
theorem clone61_ok : FnC Tryz.prog 61 (cloneC 101 41 552) := by
  refine FnC.ofV 61 (fn := Tryz.f61) Tryz.func61 rfl (by kernel_rfl) fun args B r B' hS => ?_
  unfold cloneC at hS
  split at hS
  · simp only [Option.some.injEq, Prod.mk.injEq] at hS
    obtain ⟨rfl, rfl⟩ := hS
    refine ⟨by simp, ?_⟩
    change V _ (RetM _ _ 0 _ _) _ _ ⟨8, [(0, .nils)], []⟩
    repeat (first | refine NV.seq ?_ | refine NV.blk ?_ | refine V.seq rfl ?_ | refine V.block rfl ?_ | refine V.skip rfl ?_ | refine V.ret rfl ?_ | refine NV.nil ?_ | refine NV.loop ?_ | refine V.exit rfl ?_ | refine XV.seq ?_ | refine XV.loop ?_ | refine XV.hit ?_ | refine XV.pass (by decide) ?_ | refine V.condT rfl (by rfl) ?_ | refine V.condF rfl (by rfl) ?_ | refine V.region tm no_specs rfl (by conv => lhs; simp) fun _ => ?_ | refine V.regionD tm no_specs rfl (by conv => lhs; simp) (by conv => lhs; simp) (by kernel_rfl) fun _ => ?_)
    refine retM2_ok false [] [] ?_
    simp [retM2, movedOK, oldOK, frqT, frqV, frqVs, frqL, frq1, expG, expB3, renB, AV.ren, renL, List.range, List.range.loop, resVs, resV, pack, List.zipWith, List.idxOf?, List.findIdx?, List.findIdx?.go]
  · rename_i s rows
    split at hS
    · rename_i hc
      obtain ⟨rfl, h1, h1', h2⟩ := hc
      simp only [Option.some.injEq, Prod.mk.injEq] at hS
      obtain ⟨rfl, rfl⟩ := hS
      refine ⟨by simp, ?_⟩
      change V _ (RetM _ _ 0 _ _) _ _ ⟨8, [(0, .list 41 rows)], []⟩
      cases rows with
      | nil =>
        refine V.nilCase (t := 0) (s := 41) 0 rfl rfl ?_ ?_
        · repeat (first | refine NV.seq ?_ | refine NV.blk ?_ | refine V.seq rfl ?_ | refine V.block rfl ?_ | refine V.skip rfl ?_ | refine NV.nil ?_ | refine NV.loop ?_ | refine V.exit rfl ?_ | refine XV.seq ?_ | refine XV.loop ?_ | refine XV.hit ?_ | refine XV.pass (by decide) ?_ | refine V.condT rfl (by rfl) ?_ | refine V.condF rfl (by rfl) ?_ | refine V.region tm no_specs rfl (by conv => lhs; simp) fun _ => ?_ | refine V.regionD tm no_specs rfl (by conv => lhs; simp) (by conv => lhs; simp) (by kernel_rfl) fun _ => ?_)
          refine V.phantom (t := 2) 100 101 41 rfl rfl (by decide) ?_
          repeat (first | refine NV.seq ?_ | refine NV.blk ?_ | refine V.seq rfl ?_ | refine V.block rfl ?_ | refine V.skip rfl ?_ | refine V.ret rfl ?_ | refine NV.nil ?_ | refine NV.loop ?_ | refine V.exit rfl ?_ | refine XV.seq ?_ | refine XV.loop ?_ | refine XV.hit ?_ | refine XV.pass (by decide) ?_ | refine V.condT rfl (by rfl) ?_ | refine V.condF rfl (by rfl) ?_ | refine V.region tm no_specs rfl (by conv => lhs; simp) fun _ => ?_ | refine V.regionD tm no_specs rfl (by conv => lhs; simp) (by conv => lhs; simp) (by kernel_rfl) fun _ => ?_)
          simp only [List.length_nil, rowB]
          refine retM2_ok false [100] [0] ?_
          simp [retM2, movedOK, oldOK, frqT, frqV, frqVs, frqL, frq1, expG, expB3, renB, AV.ren, renL, List.range, List.range.loop, resVs, resV, pack, List.zipWith, List.idxOf?, List.findIdx?, List.findIdx?.go]
        · repeat (first | refine NV.seq ?_ | refine NV.blk ?_ | refine V.seq rfl ?_ | refine V.block rfl ?_ | refine V.skip rfl ?_ | refine V.ret rfl ?_ | refine NV.nil ?_ | refine NV.loop ?_ | refine V.exit rfl ?_ | refine XV.seq ?_ | refine XV.loop ?_ | refine XV.hit ?_ | refine XV.pass (by decide) ?_ | refine V.condT rfl (by rfl) ?_ | refine V.condF rfl (by rfl) ?_ | refine V.region tm no_specs rfl (by conv => lhs; simp) fun _ => ?_ | refine V.regionD tm no_specs rfl (by conv => lhs; simp) (by conv => lhs; simp) (by kernel_rfl) fun _ => ?_)
          simp only [List.length_nil, rowB]
          refine retM2_ok false [96] [0] ?_
          simp [retM2, movedOK, oldOK, frqT, frqV, frqVs, frqL, frq1, expG, expB3, renB, AV.ren, renL, List.range, List.range.loop, resVs, resV, pack, List.zipWith, List.idxOf?, List.findIdx?, List.findIdx?.go]
      | cons x rows =>
        simp only [List.length_cons] at h1 h2 h1'
        try simp only [Nat.mul_one] at h1
        repeat (first | refine NV.seq ?_ | refine NV.blk ?_ | refine V.seq rfl ?_ | refine V.block rfl ?_ | refine V.skip rfl ?_ | refine V.ret rfl ?_ | refine NV.nil ?_ | refine NV.loop ?_ | refine V.exit rfl ?_ | refine XV.seq ?_ | refine XV.loop ?_ | refine XV.hit ?_ | refine XV.pass (by decide) ?_ | refine V.condT rfl (by rfl) ?_ | refine V.condF rfl (by rfl) ?_ | refine V.region tm no_specs rfl (by conv => lhs; simp [h1, h2, h1']) fun _ => ?_ | refine V.regionD tm no_specs rfl (by conv => lhs; simp [h1, h2, h1']) (by conv => lhs; simp) (by kernel_rfl) fun _ => ?_)
        simp only [List.length_cons, rowB]
        refine retM2_ok false [96] [0] ?_
        simp [retM2, movedOK, oldOK, frqT, frqV, frqVs, frqL, frq1, expG, expB3, renB, AV.ren, renL, List.range, List.range.loop, resVs, resV, pack, List.zipWith, List.idxOf?, List.findIdx?, List.findIdx?.go]
    · cases hS
  · rename_i len b
    split at hS
    · rename_i hc
      obtain ⟨hb, rfl, h1, h2⟩ := hc
      simp only [Option.some.injEq, Prod.mk.injEq] at hS
      obtain ⟨rfl, rfl⟩ := hS
      rw [okB_eq hb]
      generalize b.rows = rows at h1 h2 ⊢
      refine ⟨by simp, ?_⟩
      change V _ (RetM _ _ 1 _ _) _ _ ⟨8, [(0, .sl 0 0 0 rows.length)], [(0, { gen := 0, kind := 2, elem := 101, size := 41, inl := true, rows })]⟩
      cases rows with
      | nil =>
        refine V.slNil (t := 0) 1 rfl rfl rfl rfl ?_ ?_
        · repeat (first | refine NV.seq ?_ | refine NV.blk ?_ | refine V.seq rfl ?_ | refine V.block rfl ?_ | refine V.skip rfl ?_ | refine NV.nil ?_ | refine NV.loop ?_ | refine V.exit rfl ?_ | refine XV.seq ?_ | refine XV.loop ?_ | refine XV.hit ?_ | refine XV.pass (by decide) ?_ | refine V.condT rfl (by rfl) ?_ | refine V.condF rfl (by rfl) ?_ | refine V.region tm no_specs rfl (by conv => lhs; simp) fun _ => ?_ | refine V.regionD tm no_specs rfl (by conv => lhs; simp) (by conv => lhs; simp) (by kernel_rfl) fun _ => ?_)
          refine V.phantom (t := 2) 100 101 41 rfl rfl (by decide) ?_
          repeat (first | refine NV.seq ?_ | refine NV.blk ?_ | refine V.seq rfl ?_ | refine V.block rfl ?_ | refine V.skip rfl ?_ | refine V.ret rfl ?_ | refine NV.nil ?_ | refine NV.loop ?_ | refine V.exit rfl ?_ | refine XV.seq ?_ | refine XV.loop ?_ | refine XV.hit ?_ | refine XV.pass (by decide) ?_ | refine V.condT rfl (by rfl) ?_ | refine V.condF rfl (by rfl) ?_ | refine V.region tm no_specs rfl (by conv => lhs; simp) fun _ => ?_ | refine V.regionD tm no_specs rfl (by conv => lhs; simp) (by conv => lhs; simp) (by kernel_rfl) fun _ => ?_)
          simp only [List.length_nil, rowB]
          refine retM2_ok false [0, 100] [0, 0] ?_
          simp [retM2, movedOK, oldOK, frqT, frqV, frqVs, frqL, frq1, expG, expB3, renB, AV.ren, renL, List.range, List.range.loop, resVs, resV, pack, List.zipWith, List.idxOf?, List.findIdx?, List.findIdx?.go]
        · repeat (first | refine NV.seq ?_ | refine NV.blk ?_ | refine V.seq rfl ?_ | refine V.block rfl ?_ | refine V.skip rfl ?_ | refine V.ret rfl ?_ | refine NV.nil ?_ | refine NV.loop ?_ | refine V.exit rfl ?_ | refine XV.seq ?_ | refine XV.loop ?_ | refine XV.hit ?_ | refine XV.pass (by decide) ?_ | refine V.condT rfl (by rfl) ?_ | refine V.condF rfl (by rfl) ?_ | refine V.region tm no_specs rfl (by conv => lhs; simp) fun _ => ?_ | refine V.regionD tm no_specs rfl (by conv => lhs; simp) (by conv => lhs; simp) (by kernel_rfl) fun _ => ?_)
          simp only [List.length_nil, rowB]
          refine retM2_ok false [0, 96] [0, 0] ?_
          simp [retM2, movedOK, oldOK, frqT, frqV, frqVs, frqL, frq1, expG, expB3, renB, AV.ren, renL, List.range, List.range.loop, resVs, resV, pack, List.zipWith, List.idxOf?, List.findIdx?, List.findIdx?.go]
      | cons x rows =>
        simp only [List.length_cons] at h1 h2
        try simp only [Nat.mul_one] at h1
        repeat (first | refine NV.seq ?_ | refine NV.blk ?_ | refine V.seq rfl ?_ | refine V.block rfl ?_ | refine V.skip rfl ?_ | refine V.ret rfl ?_ | refine NV.nil ?_ | refine NV.loop ?_ | refine V.exit rfl ?_ | refine XV.seq ?_ | refine XV.loop ?_ | refine XV.hit ?_ | refine XV.pass (by decide) ?_ | refine V.condT rfl (by rfl) ?_ | refine V.condF rfl (by rfl) ?_ | refine V.region tm no_specs rfl (by conv => lhs; simp [h1, h2]) fun _ => ?_ | refine V.regionD tm no_specs rfl (by conv => lhs; simp [h1, h2]) (by conv => lhs; simp) (by kernel_rfl) fun _ => ?_)
        simp only [List.length_cons, rowB]
        refine retM2_ok false [0, 96] [0, 0] ?_
        simp [retM2, movedOK, oldOK, frqT, frqV, frqVs, frqL, frq1, expG, expB3, renB, AV.ren, renL, List.range, List.range.loop, resVs, resV, pack, List.zipWith, List.idxOf?, List.findIdx?, List.findIdx?.go]
    · cases hS
  · cases hS
theorem clone36_ok : FnC Tryz.prog 36 (cloneC 23 1 8) := by
  refine FnC.ofV 36 (fn := Tryz.f36) Tryz.func36 rfl (by kernel_rfl) fun args B r B' hS => ?_
  unfold cloneC at hS
  split at hS
  · simp only [Option.some.injEq, Prod.mk.injEq] at hS
    obtain ⟨rfl, rfl⟩ := hS
    refine ⟨by simp, ?_⟩
    change V _ (RetM _ _ 0 _ _) _ _ ⟨8, [(0, .nils)], []⟩
    repeat (first | refine NV.seq ?_ | refine NV.blk ?_ | refine V.seq rfl ?_ | refine V.block rfl ?_ | refine V.skip rfl ?_ | refine V.ret rfl ?_ | refine NV.nil ?_ | refine NV.loop ?_ | refine V.exit rfl ?_ | refine XV.seq ?_ | refine XV.loop ?_ | refine XV.hit ?_ | refine XV.pass (by decide) ?_ | refine V.condT rfl (by rfl) ?_ | refine V.condF rfl (by rfl) ?_ | refine V.region tm no_specs rfl (by conv => lhs; simp) fun _ => ?_ | refine V.regionD tm no_specs rfl (by conv => lhs; simp) (by conv => lhs; simp) (by kernel_rfl) fun _ => ?_)
    refine retM2_ok false [] [] ?_
    simp [retM2, movedOK, oldOK, frqT, frqV, frqVs, frqL, frq1, expG, expB3, renB, AV.ren, renL, List.range, List.range.loop, resVs, resV, pack, List.zipWith, List.idxOf?, List.findIdx?, List.findIdx?.go]
  · rename_i s rows
    split at hS
    · rename_i hc
      obtain ⟨rfl, h1, h1', h2⟩ := hc
      simp only [Option.some.injEq, Prod.mk.injEq] at hS
      obtain ⟨rfl, rfl⟩ := hS
      refine ⟨by simp, ?_⟩
      change V _ (RetM _ _ 0 _ _) _ _ ⟨8, [(0, .list 1 rows)], []⟩
      cases rows with
      | nil =>
        refine V.nilCase (t := 0) (s := 1) 0 rfl rfl ?_ ?_
        · repeat (first | refine NV.seq ?_ | refine NV.blk ?_ | refine V.seq rfl ?_ | refine V.block rfl ?_ | refine V.skip rfl ?_ | refine NV.nil ?_ | refine NV.loop ?_ | refine V.exit rfl ?_ | refine XV.seq ?_ | refine XV.loop ?_ | refine XV.hit ?_ | refine XV.pass (by decide) ?_ | refine V.condT rfl (by rfl) ?_ | refine V.condF rfl (by rfl) ?_ | refine V.region tm no_specs rfl (by conv => lhs; simp) fun _ => ?_ | refine V.regionD tm no_specs rfl (by conv => lhs; simp) (by conv => lhs; simp) (by kernel_rfl) fun _ => ?_)
          refine V.phantom (t := 2) 100 23 1 rfl rfl (by decide) ?_
          repeat (first | refine NV.seq ?_ | refine NV.blk ?_ | refine V.seq rfl ?_ | refine V.block rfl ?_ | refine V.skip rfl ?_ | refine V.ret rfl ?_ | refine NV.nil ?_ | refine NV.loop ?_ | refine V.exit rfl ?_ | refine XV.seq ?_ | refine XV.loop ?_ | refine XV.hit ?_ | refine XV.pass (by decide) ?_ | refine V.condT rfl (by rfl) ?_ | refine V.condF rfl (by rfl) ?_ | refine V.region tm no_specs rfl (by conv => lhs; simp) fun _ => ?_ | refine V.regionD tm no_specs rfl (by conv => lhs; simp) (by conv => lhs; simp) (by kernel_rfl) fun _ => ?_)
          simp only [List.length_nil, rowB]
          refine retM2_ok false [100] [0] ?_
          simp [retM2, movedOK, oldOK, frqT, frqV, frqVs, frqL, frq1, expG, expB3, renB, AV.ren, renL, List.range, List.range.loop, resVs, resV, pack, List.zipWith, List.idxOf?, List.findIdx?, List.findIdx?.go]
        · repeat (first | refine NV.seq ?_ | refine NV.blk ?_ | refine V.seq rfl ?_ | refine V.block rfl ?_ | refine V.skip rfl ?_ | refine V.ret rfl ?_ | refine NV.nil ?_ | refine NV.loop ?_ | refine V.exit rfl ?_ | refine XV.seq ?_ | refine XV.loop ?_ | refine XV.hit ?_ | refine XV.pass (by decide) ?_ | refine V.condT rfl (by rfl) ?_ | refine V.condF rfl (by rfl) ?_ | refine V.region tm no_specs rfl (by conv => lhs; simp) fun _ => ?_ | refine V.regionD tm no_specs rfl (by conv => lhs; simp) (by conv => lhs; simp) (by kernel_rfl) fun _ => ?_)
          simp only [List.length_nil, rowB]
          refine retM2_ok false [96] [0] ?_
          simp [retM2, movedOK, oldOK, frqT, frqV, frqVs, frqL, frq1, expG, expB3, renB, AV.ren, renL, List.range, List.range.loop, resVs, resV, pack, List.zipWith, List.idxOf?, List.findIdx?, List.findIdx?.go]
      | cons x rows =>
        simp only [List.length_cons] at h1 h2 h1'
        try simp only [Nat.mul_one] at h1
        repeat (first | refine NV.seq ?_ | refine NV.blk ?_ | refine V.seq rfl ?_ | refine V.block rfl ?_ | refine V.skip rfl ?_ | refine V.ret rfl ?_ | refine NV.nil ?_ | refine NV.loop ?_ | refine V.exit rfl ?_ | refine XV.seq ?_ | refine XV.loop ?_ | refine XV.hit ?_ | refine XV.pass (by decide) ?_ | refine V.condT rfl (by rfl) ?_ | refine V.condF rfl (by rfl) ?_ | refine V.region tm no_specs rfl (by conv => lhs; simp [h1, h2, h1']) fun _ => ?_ | refine V.regionD tm no_specs rfl (by conv => lhs; simp [h1, h2, h1']) (by conv => lhs; simp) (by kernel_rfl) fun _ => ?_)
        simp only [List.length_cons, rowB]
        refine retM2_ok false [96] [0] ?_
        simp [retM2, movedOK, oldOK, frqT, frqV, frqVs, frqL, frq1, expG, expB3, renB, AV.ren, renL, List.range, List.range.loop, resVs, resV, pack, List.zipWith, List.idxOf?, List.findIdx?, List.findIdx?.go]
    · cases hS
  · rename_i len b
    split at hS
    · rename_i hc
      obtain ⟨hb, rfl, h1, h2⟩ := hc
      simp only [Option.some.injEq, Prod.mk.injEq] at hS
      obtain ⟨rfl, rfl⟩ := hS
      rw [okB_eq hb]
      generalize b.rows = rows at h1 h2 ⊢
      refine ⟨by simp, ?_⟩
      change V _ (RetM _ _ 1 _ _) _ _ ⟨8, [(0, .sl 0 0 0 rows.length)], [(0, { gen := 0, kind := 2, elem := 23, size := 1, inl := true, rows })]⟩
      cases rows with
      | nil =>
        refine V.slNil (t := 0) 1 rfl rfl rfl rfl ?_ ?_
        · repeat (first | refine NV.seq ?_ | refine NV.blk ?_ | refine V.seq rfl ?_ | refine V.block rfl ?_ | refine V.skip rfl ?_ | refine NV.nil ?_ | refine NV.loop ?_ | refine V.exit rfl ?_ | refine XV.seq ?_ | refine XV.loop ?_ | refine XV.hit ?_ | refine XV.pass (by decide) ?_ | refine V.condT rfl (by rfl) ?_ | refine V.condF rfl (by rfl) ?_ | refine V.region tm no_specs rfl (by conv => lhs; simp) fun _ => ?_ | refine V.regionD tm no_specs rfl (by conv => lhs; simp) (by conv => lhs; simp) (by kernel_rfl) fun _ => ?_)
          refine V.phantom (t := 2) 100 23 1 rfl rfl (by decide) ?_
          repeat (first | refine NV.seq ?_ | refine NV.blk ?_ | refine V.seq rfl ?_ | refine V.block rfl ?_ | refine V.skip rfl ?_ | refine V.ret rfl ?_ | refine NV.nil ?_ | refine NV.loop ?_ | refine V.exit rfl ?_ | refine XV.seq ?_ | refine XV.loop ?_ | refine XV.hit ?_ | refine XV.pass (by decide) ?_ | refine V.condT rfl (by rfl) ?_ | refine V.condF rfl (by rfl) ?_ | refine V.region tm no_specs rfl (by conv => lhs; simp) fun _ => ?_ | refine V.regionD tm no_specs rfl (by conv => lhs; simp) (by conv => lhs; simp) (by kernel_rfl) fun _ => ?_)
          simp only [List.length_nil, rowB]
          refine retM2_ok false [0, 100] [0, 0] ?_
          simp [retM2, movedOK, oldOK, frqT, frqV, frqVs, frqL, frq1, expG, expB3, renB, AV.ren, renL, List.range, List.range.loop, resVs, resV, pack, List.zipWith, List.idxOf?, List.findIdx?, List.findIdx?.go]
        · repeat (first | refine NV.seq ?_ | refine NV.blk ?_ | refine V.seq rfl ?_ | refine V.block rfl ?_ | refine V.skip rfl ?_ | refine V.ret rfl ?_ | refine NV.nil ?_ | refine NV.loop ?_ | refine V.exit rfl ?_ | refine XV.seq ?_ | refine XV.loop ?_ | refine XV.hit ?_ | refine XV.pass (by decide) ?_ | refine V.condT rfl (by rfl) ?_ | refine V.condF rfl (by rfl) ?_ | refine V.region tm no_specs rfl (by conv => lhs; simp) fun _ => ?_ | refine V.regionD tm no_specs rfl (by conv => lhs; simp) (by conv => lhs; simp) (by kernel_rfl) fun _ => ?_)
          simp only [List.length_nil, rowB]
          refine retM2_ok false [0, 96] [0, 0] ?_
          simp [retM2, movedOK, oldOK, frqT, frqV, frqVs, frqL, frq1, expG, expB3, renB, AV.ren, renL, List.range, List.range.loop, resVs, resV, pack, List.zipWith, List.idxOf?, List.findIdx?, List.findIdx?.go]
      | cons x rows =>
        simp only [List.length_cons] at h1 h2
        try simp only [Nat.mul_one] at h1
        repeat (first | refine NV.seq ?_ | refine NV.blk ?_ | refine V.seq rfl ?_ | refine V.block rfl ?_ | refine V.skip rfl ?_ | refine V.ret rfl ?_ | refine NV.nil ?_ | refine NV.loop ?_ | refine V.exit rfl ?_ | refine XV.seq ?_ | refine XV.loop ?_ | refine XV.hit ?_ | refine XV.pass (by decide) ?_ | refine V.condT rfl (by rfl) ?_ | refine V.condF rfl (by rfl) ?_ | refine V.region tm no_specs rfl (by conv => lhs; simp [h1, h2]) fun _ => ?_ | refine V.regionD tm no_specs rfl (by conv => lhs; simp [h1, h2]) (by conv => lhs; simp) (by kernel_rfl) fun _ => ?_)
        simp only [List.length_cons, rowB]
        refine retM2_ok false [0, 96] [0, 0] ?_
        simp [retM2, movedOK, oldOK, frqT, frqV, frqVs, frqL, frq1, expG, expB3, renB, AV.ren, renL, List.range, List.range.loop, resVs, resV, pack, List.zipWith, List.idxOf?, List.findIdx?, List.findIdx?.go]
    · cases hS
  · cases hS
theorem clone37_ok : FnC Tryz.prog 37 (cloneC 64 2 16) := by
  refine FnC.ofV 37 (fn := Tryz.f37) Tryz.func37 rfl (by kernel_rfl) fun args B r B' hS => ?_
  unfold cloneC at hS
  split at hS
  · simp only [Option.some.injEq, Prod.mk.injEq] at hS
    obtain ⟨rfl, rfl⟩ := hS
    refine ⟨by simp, ?_⟩
    change V _ (RetM _ _ 0 _ _) _ _ ⟨8, [(0, .nils)], []⟩
    repeat (first | refine NV.seq ?_ | refine NV.blk ?_ | refine V.seq rfl ?_ | refine V.block rfl ?_ | refine V.skip rfl ?_ | refine V.ret rfl ?_ | refine NV.nil ?_ | refine NV.loop ?_ | refine V.exit rfl ?_ | refine XV.seq ?_ | refine XV.loop ?_ | refine XV.hit ?_ | refine XV.pass (by decide) ?_ | refine V.condT rfl (by rfl) ?_ | refine V.condF rfl (by rfl) ?_ | refine V.region tm no_specs rfl (by conv => lhs; simp) fun _ => ?_ | refine V.regionD tm no_specs rfl (by conv => lhs; simp) (by conv => lhs; simp) (by kernel_rfl) fun _ => ?_)
    refine retM2_ok false [] [] ?_
    simp [retM2, movedOK, oldOK, frqT, frqV, frqVs, frqL, frq1, expG, expB3, renB, AV.ren, renL, List.range, List.range.loop, resVs, resV, pack, List.zipWith, List.idxOf?, List.findIdx?, List.findIdx?.go]
  · rename_i s rows
    split at hS
    · rename_i hc
      obtain ⟨rfl, h1, h1', h2⟩ := hc
      simp only [Option.some.injEq, Prod.mk.injEq] at hS
      obtain ⟨rfl, rfl⟩ := hS
      refine ⟨by simp, ?_⟩
      change V _ (RetM _ _ 0 _ _) _ _ ⟨8, [(0, .list 2 rows)], []⟩
      cases rows with
      | nil =>
        refine V.nilCase (t := 0) (s := 2) 0 rfl rfl ?_ ?_
        · repeat (first | refine NV.seq ?_ | refine NV.blk ?_ | refine V.seq rfl ?_ | refine V.block rfl ?_ | refine V.skip rfl ?_ | refine NV.nil ?_ | refine NV.loop ?_ | refine V.exit rfl ?_ | refine XV.seq ?_ | refine XV.loop ?_ | refine XV.hit ?_ | refine XV.pass (by decide) ?_ | refine V.condT rfl (by rfl) ?_ | refine V.condF rfl (by rfl) ?_ | refine V.region tm no_specs rfl (by conv => lhs; simp) fun _ => ?_ | refine V.regionD tm no_specs rfl (by conv => lhs; simp) (by conv => lhs; simp) (by kernel_rfl) fun _ => ?_)
          refine V.phantom (t := 2) 100 64 2 rfl rfl (by decide) ?_
          repeat (first | refine NV.seq ?_ | refine NV.blk ?_ | refine V.seq rfl ?_ | refine V.block rfl ?_ | refine V.skip rfl ?_ | refine V.ret rfl ?_ | refine NV.nil ?_ | refine NV.loop ?_ | refine V.exit rfl ?_ | refine XV.seq ?_ | refine XV.loop ?_ | refine XV.hit ?_ | refine XV.pass (by decide) ?_ | refine V.condT rfl (by rfl) ?_ | refine V.condF rfl (by rfl) ?_ | refine V.region tm no_specs rfl (by conv => lhs; simp) fun _ => ?_ | refine V.regionD tm no_specs rfl (by conv => lhs; simp) (by conv => lhs; simp) (by kernel_rfl) fun _ => ?_)
          simp only [List.length_nil, rowB]
          refine retM2_ok false [100] [0] ?_
          simp [retM2, movedOK, oldOK, frqT, frqV, frqVs, frqL, frq1, expG, expB3, renB, AV.ren, renL, List.range, List.range.loop, resVs, resV, pack, List.zipWith, List.idxOf?, List.findIdx?, List.findIdx?.go]
        · repeat (first | refine NV.seq ?_ | refine NV.blk ?_ | refine V.seq rfl ?_ | refine V.block rfl ?_ | refine V.skip rfl ?_ | refine V.ret rfl ?_ | refine NV.nil ?_ | refine NV.loop ?_ | refine V.exit rfl ?_ | refine XV.seq ?_ | refine XV.loop ?_ | refine XV.hit ?_ | refine XV.pass (by decide) ?_ | refine V.condT rfl (by rfl) ?_ | refine V.condF rfl (by rfl) ?_ | refine V.region tm no_specs rfl (by conv => lhs; simp) fun _ => ?_ | refine V.regionD tm no_specs rfl (by conv => lhs; simp) (by conv => lhs; simp) (by kernel_rfl) fun _ => ?_)
          simp only [List.length_nil, rowB]
          refine retM2_ok false [96] [0] ?_
          simp [retM2, movedOK, oldOK, frqT, frqV, frqVs, frqL, frq1, expG, expB3, renB, AV.ren, renL, List.range, List.range.loop, resVs, resV, pack, List.zipWith, List.idxOf?, List.findIdx?, List.findIdx?.go]
      | cons x rows =>
        simp only [List.length_cons] at h1 h2 h1'
        try simp only [Nat.mul_one] at h1
        repeat (first | refine NV.seq ?_ | refine NV.blk ?_ | refine V.seq rfl ?_ | refine V.block rfl ?_ | refine V.skip rfl ?_ | refine V.ret rfl ?_ | refine NV.nil ?_ | refine NV.loop ?_ | refine V.exit rfl ?_ | refine XV.seq ?_ | refine XV.loop ?_ | refine XV.hit ?_ | refine XV.pass (by decide) ?_ | refine V.condT rfl (by rfl) ?_ | refine V.condF rfl (by rfl) ?_ | refine V.region tm no_specs rfl (by conv => lhs; simp [h1, h2, h1']) fun _ => ?_ | refine V.regionD tm no_specs rfl (by conv => lhs; simp [h1, h2, h1']) (by conv => lhs; simp) (by kernel_rfl) fun _ => ?_)
        simp only [List.length_cons, rowB]
        refine retM2_ok false [96] [0] ?_
        simp [retM2, movedOK, oldOK, frqT, frqV, frqVs, frqL, frq1, expG, expB3, renB, AV.ren, renL, List.range, List.range.loop, resVs, resV, pack, List.zipWith, List.idxOf?, List.findIdx?, List.findIdx?.go]
    · cases hS
  · rename_i len b
    split at hS
    · rename_i hc
      obtain ⟨hb, rfl, h1, h2⟩ := hc
      simp only [Option.some.injEq, Prod.mk.injEq] at hS
      obtain ⟨rfl, rfl⟩ := hS
      rw [okB_eq hb]
      generalize b.rows = rows at h1 h2 ⊢
      refine ⟨by simp, ?_⟩
      change V _ (RetM _ _ 1 _ _) _ _ ⟨8, [(0, .sl 0 0 0 rows.length)], [(0, { gen := 0, kind := 2, elem := 64, size := 2, inl := true, rows })]⟩
      cases rows with
      | nil =>
        refine V.slNil (t := 0) 1 rfl rfl rfl rfl ?_ ?_
        · repeat (first | refine NV.seq ?_ | refine NV.blk ?_ | refine V.seq rfl ?_ | refine V.block rfl ?_ | refine V.skip rfl ?_ | refine NV.nil ?_ | refine NV.loop ?_ | refine V.exit rfl ?_ | refine XV.seq ?_ | refine XV.loop ?_ | refine XV.hit ?_ | refine XV.pass (by decide) ?_ | refine V.condT rfl (by rfl) ?_ | refine V.condF rfl (by rfl) ?_ | refine V.region tm no_specs rfl (by conv => lhs; simp) fun _ => ?_ | refine V.regionD tm no_specs rfl (by conv => lhs; simp) (by conv => lhs; simp) (by kernel_rfl) fun _ => ?_)
          refine V.phantom (t := 2) 100 64 2 rfl rfl (by decide) ?_
          repeat (first | refine NV.seq ?_ | refine NV.blk ?_ | refine V.seq rfl ?_ | refine V.block rfl ?_ | refine V.skip rfl ?_ | refine V.ret rfl ?_ | refine NV.nil ?_ | refine NV.loop ?_ | refine V.exit rfl ?_ | refine XV.seq ?_ | refine XV.loop ?_ | refine XV.hit ?_ | refine XV.pass (by decide) ?_ | refine V.condT rfl (by rfl) ?_ | refine V.condF rfl (by rfl) ?_ | refine V.region tm no_specs rfl (by conv => lhs; simp) fun _ => ?_ | refine V.regionD tm no_specs rfl (by conv => lhs; simp) (by conv => lhs; simp) (by kernel_rfl) fun _ => ?_)
          simp only [List.length_nil, rowB]
          refine retM2_ok false [0, 100] [0, 0] ?_
          simp [retM2, movedOK, oldOK, frqT, frqV, frqVs, frqL, frq1, expG, expB3, renB, AV.ren, renL, List.range, List.range.loop, resVs, resV, pack, List.zipWith, List.idxOf?, List.findIdx?, List.findIdx?.go]
        · repeat (first | refine NV.seq ?_ | refine NV.blk ?_ | refine V.seq rfl ?_ | refine V.block rfl ?_ | refine V.skip rfl ?_ | refine V.ret rfl ?_ | refine NV.nil ?_ | refine NV.loop ?_ | refine V.exit rfl ?_ | refine XV.seq ?_ | refine XV.loop ?_ | refine XV.hit ?_ | refine XV.pass (by decide) ?_ | refine V.condT rfl (by rfl) ?_ | refine V.condF rfl (by rfl) ?_ | refine V.region tm no_specs rfl (by conv => lhs; simp) fun _ => ?_ | refine V.regionD tm no_specs rfl (by conv => lhs; simp) (by conv => lhs; simp) (by kernel_rfl) fun _ => ?_)
          simp only [List.length_nil, rowB]
          refine retM2_ok false [0, 96] [0, 0] ?_
          simp [retM2, movedOK, oldOK, frqT, frqV, frqVs, frqL, frq1, expG, expB3, renB, AV.ren, renL, List.range, List.range.loop, resVs, resV, pack, List.zipWith, List.idxOf?, List.findIdx?, List.findIdx?.go]
      | cons x rows =>
        simp only [List.length_cons] at h1 h2
        try simp only [Nat.mul_one] at h1
        repeat (first | refine NV.seq ?_ | refine NV.blk ?_ | refine V.seq rfl ?_ | refine V.block rfl ?_ | refine V.skip rfl ?_ | refine V.ret rfl ?_ | refine NV.nil ?_ | refine NV.loop ?_ | refine V.exit rfl ?_ | refine XV.seq ?_ | refine XV.loop ?_ | refine XV.hit ?_ | refine XV.pass (by decide) ?_ | refine V.condT rfl (by rfl) ?_ | refine V.condF rfl (by rfl) ?_ | refine V.region tm no_specs rfl (by conv => lhs; simp [h1, h2]) fun _ => ?_ | refine V.regionD tm no_specs rfl (by conv => lhs; simp [h1, h2]) (by conv => lhs; simp) (by kernel_rfl) fun _ => ?_)
        simp only [List.length_cons, rowB]
        refine retM2_ok false [0, 96] [0, 0] ?_
        simp [retM2, movedOK, oldOK, frqT, frqV, frqVs, frqL, frq1, expG, expB3, renB, AV.ren, renL, List.range, List.range.loop, resVs, resV, pack, List.zipWith, List.idxOf?, List.findIdx?, List.findIdx?.go]
    · cases hS
  · cases hS
theorem tNV : Tryz.prog.funcs.all (fun fn => !(fn.name == "runtime.NumGoroutine")) = true := by kernel_rfl
def base : NL SpecFn := [(53, cloneC 95 41 496), (61, cloneC 101 41 552), (36, cloneC 23 1 8), (37, cloneC 64 2 16)]
theorem base_ok : ∀ f S, lk base f = some S → FnC Tryz.prog f S := by
  intro f S h
  simp only [base, lk] at h
  split at h
  · rename_i e; subst e; cases h; exact clone53_ok
  split at h
  · rename_i e; subst e; cases h; exact clone61_ok
  split at h
  · rename_i e; subst e; cases h; exact clone36_ok
  split at h
  · rename_i e; subst e; cases h; exact clone37_ok
  · cases h
noncomputable def run (f : FuncId) : SpecFn := runB Tryz.prog base 1000 40 f
theorem run_ok (f : FuncId) {fn : Func} {body : Code} (hf : Tryz.prog.funcs[f]? = some fn) (hb : fn.body = some body) : FnC Tryz.prog f (run f) := runB_ok base_ok tm tNV 40 f hf hb
noncomputable def pf (f : FuncId) : SpecFn := pureS (run f)
theorem pf_ok (f : FuncId) {fn : Func} {body : Code} (hf : Tryz.prog.funcs[f]? = some fn) (hb : fn.body = some body) : FnC Tryz.prog f (pf f) := FnC.pure (run_ok f hf hb)
theorem sane_eq : pf 4 [] [] = some (.bool true, []) := by kernel_rfl
theorem sane_ex : ∃ S, FnC Tryz.prog 4 S ∧ S [] [] = some (.bool true, []) := ⟨_, pf_ok 4 Tryz.func4 rfl, sane_eq⟩
end Go.Abs.Nh
namespace Go.Abs.Nh
open Go Go.Proofs Go.Abs
set_option maxRecDepth 100000
set_option maxHeartbeats 4000000
set_option linter.unusedSimpArgs false
set_option linter.unusedVariables false
attribute [local simp] instA slice3A slice3C
theorem m1 : (1 : Nat) ≤ maxLen := by decide
theorem first_all {n : Nat} {l : List (List AV)} (h : l.length = n) : firstRows n l = l := by
  subst h
  simp [firstRows]
def home (L : List Int) (id : Nat) : Int := (L[id % L.length]?).getD 0
theorem home_nil (id : Nat) : home [] id = 0 := rfl
theorem home_get {L : List Int} (h : L ≠ []) (id : Nat) : L[id % L.length]? = some (home L id) := by
  have : id % L.length < L.length := Nat.mod_lt _ (List.length_pos_iff.2 h)
  rw [home, List.getElem?_eq_getElem this, Option.getD_some]
theorem home_mem {L : List Int} (h : L ≠ []) (id : Nat) : home L id ∈ L := List.mem_of_getElem? (home_get h id)
theorem home_per (L : List Int) (id : Nat) : home L (id + L.length) = home L id := by
  unfold home
  rw [Nat.add_mod_right]
theorem home_ne {L : List Int} (hn : L.Nodup) {j k : Nat} (hjk : j < k) (hk : k < L.length) (id : Nat) : home L (id + j) ≠ home L (id + k) := fun e => by
  have h : L ≠ [] := by rintro rfl; simp at hk
  have h0 : 0 < L.length := by omega
  have e1 := home_get h (id + j)
  have e2 := home_get h (id + k)
  rw [e, ← e2] at e1
  have h1 := (List.getElem?_inj (Nat.mod_lt _ h0) hn).1 e1
  have h2 := Nat.div_add_mod (id + j) L.length
  have h3 := Nat.div_add_mod (id + k) L.length
  rw [h1] at h2
  have h4 : L.length * ((id + k) / L.length) = L.length * ((id + j) / L.length) + (k - j) := by omega
  have h5 : L.length ∣ (k - j) := (Nat.dvd_add_right (Nat.dvd_mul_right _ _)).1 (h4 ▸ Nat.dvd_mul_right _ _)
  have := Nat.le_of_dvd (by omega) h5
  omega
structure Hm where
  L : List Int
  id : Nat
  h1 : L.length ≤ 9000
  h2 : id < 18446744073709551616
noncomputable def homS : SpecFn := mkS (fun d : Hm => [.list 1 (d.L.map ic), .int .u64 (d.id : Nat)]) fun d => (.int .i64 (home d.L d.id), [])
theorem homS_eq (L : List Int) (id : Nat) (h1 : L.length ≤ 9000) (h2 : id < 18446744073709551616) : homS [.list 1 (L.map ic), .int .u64 (id : Nat)] [] = some (.int .i64 (home L id), []) :=
  mkS_eq (enc := fun d : Hm => [AV.list 1 (d.L.map ic), .int .u64 (d.id : Nat)]) (res := fun d => (.int .i64 (home d.L d.id), [])) (fun x y h => by
    obtain ⟨a, b, _, _⟩ := x
    obtain ⟨a', b', _, _⟩ := y
    simp only [List.cons.injEq, AV.list.injEq, AV.int.injEq, true_and, and_true, Int.natCast_inj] at h
    cases map_inj ic_inj h.1
    cases h.2
    rfl) ⟨L, id, h1, h2⟩
theorem u64n {n : Nat} (h : n < 18446744073709551616) : IntKind.u64.wrap (n : Int) = n := by
  simp [IntKind.wrap, IntKind.bits, IntKind.signed]; omega
theorem hom_ok : FnC Tryz.prog 7 homS := by
  refine FnC.walk 7 (fn := Tryz.f7) Tryz.func7 rfl (by kernel_rfl) fun d => ?_
  obtain ⟨L, id, h1, h2⟩ := d
  change W _ (Ret _ _ (.int .i64 (home L id)) []) _ _ ⟨16, [(0, .list 1 (L.map ic)), (1, .int .u64 (id : Nat))], []⟩
  have cap : L.length ≤ 9223372036854775807 := by omega
  by_cases hL : L = []
  · subst hL
    repeat' (first | refine ZV ?_ | refine ZB tm no_specs ?_ | refine ZH (fun hb => ?_) (fun hb => ?_) | refine ZJ (by conv => lhs; simp) ?_ | refine ZA (fun hb => ?_) (fun hb => ?_))
    all_goals (first | refine Ret.dataE rfl (by conv => lhs; simp) (by conv => lhs; simp) (by first | rfl | simp [inlT, inlV]) ?_ | refine RetNf.dataE rfl (by conv => lhs; simp) (by conv => lhs; simp) (by first | rfl | simp [inlT, inlV]) ?_)
    all_goals (first | rfl | (simp [home_nil]; done) | (simp_all [home_nil]; done) | (simp_all [home_nil]; omega))
  · have h0 : 0 < L.length := List.length_pos_iff.2 hL
    have e0 : ((L.length : Int) == 0) = false := by simp; omega
    have e1 := u64n (n := L.length) (by omega)
    have e2 : ((id : Int)).tmod (L.length : Int) = ((id % L.length : Nat) : Int) := by rw [Int.ofNat_tmod]
    have e3 : IntKind.u64.wrap ((id % L.length : Nat) : Int) = ((id % L.length : Nat) : Int) := u64n (by have := Nat.mod_lt id h0; omega)
    have hg := home_get hL id
    have hm : (L.map ic)[id % L.length]? = some [.int .i64 (home L id)] := by rw [List.getElem?_map, hg]; rfl
    have q1 : ((id % L.length : Nat) : Int) < L.length := by have := Nat.mod_lt id h0; omega
    have q2 : ¬ L.length ≤ id % L.length := by have := Nat.mod_lt id h0; omega
    have z0 : ¬ L.length = 0 := by omega
    generalize id % L.length = r at *
    generalize home L id = v at *
    clear hL hg
    repeat' (first | refine ZV ?_ | refine ZB tm no_specs ?_ | refine ZH (fun hb => ?_) (fun hb => ?_) | refine ZJ (by conv => lhs; simp [cap, e0, e1, e2, e3, q1, q2, hm, z0]) ?_ | refine ZA (fun hb => ?_) (fun hb => ?_))
    all_goals (first | refine Ret.dataE rfl (by conv => lhs; simp) (by conv => lhs; simp) (by first | rfl | simp [inlT, inlV]) ?_ | refine RetNf.dataE rfl (by conv => lhs; simp) (by conv => lhs; simp) (by first | rfl | simp [inlT, inlV]) ?_)
    all_goals (first | rfl | (simp; done) | (simp_all; done) | (simp_all; omega))
structure Dk where
  L : List Int
  k : Nat
  h0 : L.length ≤ maxLen
  h1 : k ≤ L.length
def encDk (x : Dk) : List AV × List ABlk := ([.ptr 0 0 0 0], [dkB x.L x.k])
theorem encDk_inj : ∀ x y : Dk, encDk x = encDk y → x = y := fun x y h => by
  obtain ⟨a, b, _, _⟩ := x
  obtain ⟨a', b', _, _⟩ := y
  simp only [encDk, Prod.mk.injEq, List.cons.injEq, true_and, and_true] at h
  obtain ⟨rfl, rfl⟩ := dkB_inj h
  rfl
def NdP (x : Dk) (r : AV × List ABlk) : Prop := ∃ (L : List Int) (k' : Nat), L.Nodup ∧ L.length ≤ 4 ∧ r = (.list 1 (L.map ic), [dkB x.L k'])
noncomputable def nds_specs : NL Spec := [(10, ⟨3, nextS⟩)]
theorem nds_specs_ok : ∀ p ∈ nds_specs, FnC Tryz.prog p.1 p.2.fn := by
  simp only [nds_specs, List.mem_cons, List.not_mem_nil, or_false]
  rintro p rfl
  exact next_ok
attribute [local simp] nds_specs
theorem nds_ex : ∃ S, FnC Tryz.prog 5 S ∧ ∀ x : Dk, ∃ r, S (encDk x).1 (encDk x).2 = some r ∧ NdP x r := by
  refine FnC.existsB 5 (fn := Tryz.f5) Tryz.func5 rfl (by kernel_rfl) (fun x b hb => by simp [encDk] at hb; rw [hb]; rfl) encDk_inj (fun x => ⟨_, [], x.k, List.Pairwise.nil, by simp, rfl⟩) fun x => ?_
  obtain ⟨L0, k0, h0, h1⟩ := x
  change W _ _ _ _ ⟨17, [(0, .ptr 0 0 0 0)], [(0, dkB L0 k0)]⟩
  repeat' (first | refine ZV ?_ | refine ZB (id := 0) tm nds_specs_ok ?_ | refine ZB (id := 1) tm nds_specs_ok ?_ | refine ZB (id := 2) tm nds_specs_ok ?_ | refine ZH (fun hb => ?_) (fun hb => ?_) | refine ZJ (by conv => lhs; simp) ?_ | refine ZA (fun hb => ?_) (fun hb => ?_))
  refine W.phantom (t := 3) 20000 3 1 true (by rfl) (by rfl) (by decide) ?_
  refine W.loop rfl (ι := { q : Nat × Nat × List Int × Nat × NL ABlk // q.1 ≤ 4 ∧ q.2.1 ≤ L0.length ∧ q.2.2.1.Nodup ∧ (∀ x ∈ q.2.2.1, x < (q.1 : Int)) ∧ q.2.2.1.length ≤ q.1 ∧ lk q.2.2.2.2 0 = some (dkB L0 q.2.1) ∧ lk q.2.2.2.2 20000 = some { gen := q.2.2.2.1, kind := 2, elem := 3, size := 1, inl := true, rows := q.2.2.1.map ic } })
    (fun q => ⟨17, [(0, .ptr 0 0 0 0), (3, .sl 20000 q.1.2.2.2.1 0 q.1.2.2.1.length), (4, .int .i64 (q.1.1 : Nat))], q.1.2.2.2.2⟩) (fun q => 4 - q.1.1)
    ⟨(0, k0, [], 0, _), by simp, h1, List.Pairwise.nil, by simp, by simp, by simp [lk, lk_st], by simp [lk, lk_st]⟩ (AS.le_of rfl ⟨rfl, rfl, rfl, trivial⟩ (fun _ => rfl)) ?_
  rintro ⟨⟨i, k, L, g, H⟩, hi, hk, hn, hb', hl, g0, gM⟩
  dsimp only at hi hk hn hb' hl g0 gM ⊢
  by_cases hi4 : i = 4
  · subst hi4
    have tL : List.take L.length (L.map ic) = L.map ic := List.take_of_length_le (by simp)
    repeat' (first | refine ZV ?_ | refine ZB tm nds_specs_ok ?_ | refine ZH (fun hb => ?_) (fun hb => ?_) | refine ZJ (by conv => lhs; simp) ?_ | refine ZA (fun hb => ?_) (fun hb => ?_))
    refine ⟨(.list 1 (L.map ic), [dkB L0 k]), ⟨L, k, hn, hl, rfl⟩, ?_⟩
    refine RetB.mk true [0] rfl (by conv => lhs; simp) (by conv => lhs; simp [frqT, frqV, frqVs, frqL, frq1, frz1, gM, tL]) (by decide) (by rintro j hj; have hj : j < 1 := hj; rcases (show j = 0 by omega) with rfl; exact ⟨rfl, by simp [lk_st, g0, dkB]⟩) (by simp [lk_st, g0, dkB]) (by simp)
  · have i1 : (i : Int) < 4 := by omega
    have iw : IntKind.i64.wrap ((i : Int) + 1) = ((i + 1 : Nat) : Int) := w64 (by omega) (by omega)
    have cn := nextS_eq L0 k 4 h0 hk (by omega) (by omega)
    have hk2 := nk_le hk
    generalize nx L0 k 4 = v at *
    generalize nk L0 k = k2 at *
    simp only [dkB] at g0
    by_cases hv : 0 < v
    · have hrow : L.map ic ++ [[.int .i64 (i : Int)]] = (L ++ [(i : Int)]).map ic := by simp [ic]
      have hl2 : (L ++ [(i : Int)]).length = L.length + 1 := by simp
      have hn2 : (L ++ [(i : Int)]).Nodup := by
        rw [List.nodup_append]
        refine ⟨hn, by simp, fun a ha b hb => ?_⟩
        simp only [List.mem_singleton] at hb
        subst hb
        have := hb' a ha
        omega
      have hb2 : ∀ x ∈ L ++ [(i : Int)], x < ((i + 1 : Nat) : Int) := fun x hx => by
        rcases List.mem_append.1 hx with hx | hx
        · have := hb' x hx
          omega
        · simp only [List.mem_singleton] at hx
          omega
      have y1 : L.length ≤ maxLen := by simp only [maxLen]; omega
      have y2 : (L.length + 1) * 8 ≤ 140737488355328 := by omega
      have y4 : L.length + 1 ≤ maxLen := by simp only [maxLen]; omega
      have fT : firstRows L.length (L.map ic) = L.map ic := first_all (by simp)
      generalize L ++ [(i : Int)] = L2 at *
      repeat' (first | refine ZV ?_ | refine ZB tm nds_specs_ok ?_ | refine ZH (fun hb => ?_) (fun hb => ?_) | refine ZJ (by conv => lhs; simp [i1, iw, g0, gM, cn, hv, hrow, y1, y2, y4, fT, m1]) ?_ | refine ZA (fun hb => ?_) (fun hb => ?_))
      exact ⟨⟨(i + 1, k2, L2, g + 1, _), by dsimp only; omega, hk2, hn2, hb2, by dsimp only; omega, by simp [lk_st, dkB], by simp [lk_st]⟩, by dsimp only; omega, AS.le_of rfl ⟨rfl, by simp [lk, hl2], rfl, trivial⟩ (fun _ => rfl)⟩
    · repeat' (first | refine ZV ?_ | refine ZB tm nds_specs_ok ?_ | refine ZH (fun hb => ?_) (fun hb => ?_) | refine ZJ (by conv => lhs; simp [i1, iw, g0, gM, cn, hv]) ?_ | refine ZA (fun hb => ?_) (fun hb => ?_))
      exact ⟨⟨(i + 1, k2, L, g, _), by dsimp only; omega, hk2, hn, fun x hx => by have := hb' x hx; dsimp only; omega, by dsimp only; omega, by simp [lk_st, dkB], by simp [lk_st, gM]⟩, by dsimp only; omega, AS.le_of rfl ⟨rfl, rfl, rfl, trivial⟩ (fun _ => rfl)⟩
end Go.Abs.Nh
namespace Go.Abs.Nh
open Go Go.Proofs Go.Abs
set_option maxRecDepth 100000
set_option maxHeartbeats 4000000
set_option linter.unusedSimpArgs false
set_option linter.unusedVariables false
attribute [local simp] instA slice3A slice3C
structure Hi where
  l : List Int
  id : Nat
  h1 : l.length ≤ maxLen
  h2 : id < 18446744073709551616
noncomputable def nhoS : SpecFn := mkS (fun x : Hi => [.list 1 (x.l.map ic), .int .u64 (x.id : Nat)]) fun _ => (.bool true, [])
theorem nhoS_eq (x : Hi) : nhoS [.list 1 (x.l.map ic), .int .u64 (x.id : Nat)] [] = some (.bool true, []) := mkS_eq (enc := fun x : Hi => [AV.list 1 (x.l.map ic), .int .u64 (x.id : Nat)]) (fun _ _ _ => rfl) x
theorem nho_ok : FnC Tryz.prog 3 nhoS := by
  obtain ⟨SS, hSS, hse⟩ := sane_ex
  obtain ⟨SM, hSM, hSMe⟩ := nds_ex
  have sp : ∀ p ∈ ([(4, ⟨1, SS⟩), (6, ⟨3, newS⟩), (5, ⟨3, SM⟩), (7, ⟨1, homS⟩)] : NL Spec), FnC Tryz.prog p.1 p.2.fn := by
    simp only [List.mem_cons, List.not_mem_nil, or_false]
    rintro p (rfl | rfl | rfl | rfl)
    · exact hSS
    · exact new_ok
    · exact hSM
    · exact hom_ok
  refine FnC.walk 3 (fn := Tryz.f3) Tryz.func3 rfl (by kernel_rfl) fun x => ?_
  obtain ⟨l, id, h1, h2⟩ := x
  change W _ (Ret _ _ (.bool true) []) _ _ ⟨83, [(0, .list 1 (l.map ic)), (1, .int .u64 (id : Nat))], []⟩
  have cN := newS_eq l
  obtain ⟨r, cM, L, k', hn, hl4, rfl⟩ := hSMe ⟨l, 0, h1, Nat.zero_le _⟩
  simp only [encDk, dkB, Int.natCast_zero, Int.ofNat_zero] at cM cN
  have cap : L.length ≤ 9223372036854775807 := by omega
  by_cases hL : L = []
  · subst hL
    have ch := homS_eq [] id (by simp) h2
    rw [home_nil] at ch
    simp only [List.map_nil] at ch cM
    repeat' (first | refine ZV ?_ | refine ZB tm sp ?_ | refine ZH (fun hb => ?_) (fun hb => ?_) | refine ZJ (by conv => lhs; simp [hse, cN, cM, ch]) ?_ | refine ZA (fun hb => ?_) (fun hb => ?_))
    all_goals (first | refine Ret.dataE rfl (by conv => lhs; simp) (by conv => lhs; simp) (by first | rfl | simp [inlT, inlV]) ?_ | refine RetNf.dataE rfl (by conv => lhs; simp) (by conv => lhs; simp) (by first | rfl | simp [inlT, inlV]) ?_)
    all_goals (first | rfl | (simp; done) | (simp_all; done) | (simp_all; omega))
  · have h0 : 0 < L.length := List.length_pos_iff.2 hL
    have e0 : ((L.length : Int) == 0) = false := by simp; omega
    have z0 : ¬ L.length = 0 := by omega
    have e1 : ((id : Int)).tmod 4611686018427387904 = ((id % 4611686018427387904 : Nat) : Int) := by rw [show (4611686018427387904 : Int) = ((4611686018427387904 : Nat) : Int) from rfl, ← Int.ofNat_tmod]
    have hi2 : id % 4611686018427387904 < 4611686018427387904 := Nat.mod_lt _ (by decide)
    have e2 : IntKind.u64.wrap ((id % 4611686018427387904 : Nat) : Int) = ((id % 4611686018427387904 : Nat) : Int) := u64n (by omega)
    generalize id % 4611686018427387904 = x at *
    repeat' (first | refine ZV ?_ | refine ZB (id := 0) tm sp ?_ | refine ZB (id := 1) tm sp ?_ | refine ZB (id := 2) tm sp ?_ | refine ZB (id := 3) tm sp ?_ | refine ZB (id := 4) tm sp ?_ | refine ZB (id := 5) tm sp ?_ | refine ZB (id := 6) tm sp ?_ | refine ZB (id := 7) tm sp ?_ | refine ZB (id := 8) tm sp ?_ | refine ZH (fun hb => ?_) (fun hb => ?_) | refine ZJ (by conv => lhs; simp [hse, cN, cM, cap, e0, z0, e1, e2]) ?_ | refine ZA (fun hb => ?_) (fun hb => ?_))
    refine W.phantom (t := 6) 20000 3 1 true (by rfl) (by rfl) (by decide) ?_
    refine W.loop rfl (ι := { q : Nat × Nat × NL ABlk // q.1 ≤ L.length ∧ lk q.2.2 20000 = some { gen := q.2.1, kind := 2, elem := 3, size := 1, inl := true, rows := ((List.range q.1).map fun j => home L (x + j)).map ic } })
      (fun q => ⟨83, [(1, .int .u64 (x : Nat)), (5, .list 1 (L.map ic)), (6, .sl 20000 q.1.2.1 0 q.1.1), (29, .int .i64 L.length), (30, .int .i64 (q.1.1 : Nat))], q.1.2.2⟩) (fun q => L.length - q.1.1)
      ⟨(0, 0, _), by simp, by simp [lk, lk_st]⟩ (AS.le_of rfl ⟨rfl, rfl, rfl, rfl, rfl, trivial⟩ (fun _ => rfl)) ?_
    clear cN cM hse e1 e2 h2
    rintro ⟨⟨k, g, H⟩, hk, gM⟩
    dsimp only at hk gM ⊢
    by_cases hk2 : k = L.length
    · subst hk2
      have c1 := homS_eq L x (by omega) (by omega)
      have c2 := homS_eq L (x + L.length) (by omega) (by omega)
      rw [home_per] at c2
      have w1 : IntKind.u64.wrap (L.length : Int) = (L.length : Int) := u64n (by omega)
      have w2 : IntKind.u64.wrap ((x : Int) + (L.length : Int)) = (x : Int) + (L.length : Int) := by rw [← Int.natCast_add]; exact u64n (by omega)
      simp only [Int.natCast_add] at c2
      repeat' (first | refine ZV ?_ | refine ZB tm sp ?_ | refine ZH (fun hb => ?_) (fun hb => ?_) | refine ZJ (by conv => lhs; simp [c1, c2, w1, w2, cap]) ?_ | refine ZA (fun hb => ?_) (fun hb => ?_))
      all_goals (first | refine Ret.dataE rfl (by conv => lhs; simp) (by conv => lhs; simp) (by first | rfl | simp [inlT, inlV]) ?_ | refine RetNf.dataE rfl (by conv => lhs; simp) (by conv => lhs; simp) (by first | rfl | simp [inlT, inlV]) ?_)
      all_goals (first | rfl | (simp; done) | (simp_all; done) | (simp_all; omega))
    · have hlt : k < L.length := by omega
      have q1 : (k : Int) < L.length := by omega
      have q2 : ¬ L.length ≤ k := by omega
      have kw : IntKind.i64.wrap ((k : Int) + 1) = ((k + 1 : Nat) : Int) := w64 (by omega) (by omega)
      have w1 : IntKind.u64.wrap (k : Int) = (k : Int) := u64n (by omega)
      have w2 : IntKind.u64.wrap ((x : Int) + (k : Int)) = (x : Int) + (k : Int) := by rw [← Int.natCast_add]; exact u64n (by omega)
      have c1 := homS_eq L (x + k) (by omega) (by omega)
      simp only [Int.natCast_add] at c1
      have hmem := home_mem hL (x + k)
      have hne : ∀ y ∈ (List.range k).map (fun j => home L (x + j)), y ≠ home L (x + k) := fun y hy => by
        obtain ⟨j, hj, rfl⟩ := List.mem_map.1 hy
        exact home_ne hn (List.mem_range.1 hj) hlt x
      have hS2 : (List.range (k + 1)).map (fun j => home L (x + j)) = (List.range k).map (fun j => home L (x + j)) ++ [home L (x + k)] := by rw [List.range_succ, List.map_append]; rfl
      have hSl : ((List.range k).map (fun j => home L (x + j))).length = k := by rw [List.length_map, List.length_range]
      obtain ⟨S2, hS2'⟩ : ∃ S2, (List.range (k + 1)).map (fun j => home L (x + j)) = S2 := ⟨_, rfl⟩
      rw [hS2'] at hS2
      obtain ⟨S, hS⟩ : ∃ S, (List.range k).map (fun j => home L (x + j)) = S := ⟨_, rfl⟩
      rw [hS] at hS2 hSl hne gM
      generalize home L (x + k) = v at *
      repeat' (first | refine ZV ?_ | refine ZB (id := 9) tm sp ?_ | refine ZB (id := 10) tm sp ?_ | refine ZB (id := 11) tm sp ?_ | refine ZB (id := 12) tm sp ?_ | refine ZB (id := 13) tm sp ?_ | refine ZH (fun hb => ?_) (fun hb => ?_) | refine ZJ (by conv => lhs; simp [q1, q2, kw, w1, w2, c1, cap]) ?_ | refine ZA (fun hb => ?_) (fun hb => ?_))
      clear c1 w1 w2
      refine W.loop rfl (ι := { q : Nat × NL ABlk // q.1 ≤ L.length ∧ lk q.2 20000 = some { gen := g, kind := 2, elem := 3, size := 1, inl := true, rows := S.map ic } })
        (fun q => ⟨83, [(1, .int .u64 (x : Nat)), (5, .list 1 (L.map ic)), (6, .sl 20000 g 0 k), (8, .int .i64 v), (9, .bool ((L.take q.1.1).any fun y => y == v)), (29, .int .i64 L.length), (30, .int .i64 (k : Nat)), (39, .list 1 (L.map ic)), (40, .int .i64 L.length), (41, .int .i64 (q.1.1 : Nat))], q.1.2⟩) (fun q => L.length - q.1.1)
        ⟨(0, _), by simp, by simp [gM]⟩ (AS.le_of rfl ⟨rfl, rfl, rfl, rfl, rfl, rfl, rfl, rfl, rfl, rfl, trivial⟩ (fun _ => rfl)) ?_
      clear gM H
      rintro ⟨⟨j, H⟩, hj, gM⟩
      dsimp only at hj gM ⊢
      by_cases hj2 : j = L.length
      · subst hj2
        have ht : ((L.take L.length).any fun y => y == v) = true := by
          rw [List.take_length, List.any_eq_true]
          exact ⟨v, hmem, by simp⟩
        rw [ht]
        have capk : k ≤ 9223372036854775807 := by omega
        repeat' (first | refine ZV ?_ | refine ZB (id := 14) tm sp ?_ | refine ZB (id := 15) tm sp ?_ | refine ZB (id := 16) tm sp ?_ | refine ZB (id := 17) tm sp ?_ | refine ZB (id := 18) tm sp ?_ | refine ZH (fun hb => ?_) (fun hb => ?_) | refine ZJ (by conv => lhs; simp [gM, capk]) ?_ | refine ZA (fun hb => ?_) (fun hb => ?_))
        refine W.loop rfl (ι := { q : Nat × NL ABlk // q.1 ≤ k ∧ lk q.2 20000 = some { gen := g, kind := 2, elem := 3, size := 1, inl := true, rows := S.map ic } })
          (fun q => ⟨83, [(1, .int .u64 (x : Nat)), (5, .list 1 (L.map ic)), (6, .sl 20000 g 0 k), (8, .int .i64 v), (9, .bool true), (29, .int .i64 L.length), (30, .int .i64 (k : Nat)), (52, .sl 20000 g 0 k), (53, .int .i64 (k : Nat)), (54, .int .i64 (q.1.1 : Nat))], q.1.2⟩) (fun q => k - q.1.1)
          ⟨(0, _), by simp, by simp [gM]⟩ (AS.le_of rfl ⟨rfl, rfl, rfl, rfl, rfl, rfl, rfl, rfl, rfl, rfl, trivial⟩ (fun _ => rfl)) ?_
        clear gM H
        rintro ⟨⟨i, H⟩, hi, gM⟩
        dsimp only at hi gM ⊢
        by_cases hi2 : i = k
        · subst hi2
          have hrow : S.map ic ++ [[.int .i64 v]] = S2.map ic := by rw [hS2]; simp [ic]
          have y1 : i ≤ maxLen := by simp only [maxLen]; omega
          have y2 : (i + 1) * 8 ≤ 140737488355328 := by omega
          have y4 : i + 1 ≤ maxLen := by simp only [maxLen]; omega
          have fT : firstRows i (S.map ic) = S.map ic := first_all (by simpa using hSl)
          clear hne hmem hS2
          repeat' (first | refine ZV ?_ | refine ZB tm sp ?_ | refine ZH (fun hb => ?_) (fun hb => ?_) | refine ZJ (by conv => lhs; simp [kw, gM, hrow, y1, y2, y4, fT, m1, hSl]) ?_ | refine ZA (fun hb => ?_) (fun hb => ?_))
          exact ⟨⟨(i + 1, g + 1, _), by dsimp only; omega, by rw [hS2']; simp [lk_st]⟩, by dsimp only; omega, AS.le_of rfl ⟨rfl, rfl, rfl, rfl, rfl, trivial⟩ (fun _ => rfl)⟩
        · have hlt2 : i < S.length := by omega
          obtain ⟨y, hy⟩ := get_lt hlt2
          have hm : (S.map ic)[i]? = some [.int .i64 y] := by rw [List.getElem?_map, hy]; rfl
          have p1 : (i : Int) < (k : Int) := by omega
          have p2 : ¬ k ≤ i := by omega
          have iw : IntKind.i64.wrap ((i : Int) + 1) = ((i + 1 : Nat) : Int) := w64 (by omega) (by omega)
          have yv : (y != v) = true := by simpa using hne y (List.mem_of_getElem? hy)
          clear hlt2 hi2
          repeat' (first | refine ZV ?_ | refine ZB tm sp ?_ | refine ZH (fun hb => ?_) (fun hb => ?_) | refine ZJ (by conv => lhs; simp [p1, p2, hm, iw, gM, yv]) ?_ | refine ZA (fun hb => ?_) (fun hb => ?_))
          exact ⟨⟨(i + 1, _), by dsimp only; omega, by simp [lk_st, gM]⟩, by dsimp only; omega, AS.le_of rfl ⟨rfl, rfl, rfl, rfl, rfl, rfl, rfl, rfl, rfl, rfl, trivial⟩ (fun _ => rfl)⟩
      · have hjl : j < L.length := by omega
        obtain ⟨y, hy⟩ := get_lt hjl
        have hm : (L.map ic)[j]? = some [.int .i64 y] := by rw [List.getElem?_map, hy]; rfl
        have p1 : (j : Int) < L.length := by omega
        have p2 : ¬ L.length ≤ j := by omega
        have jw : IntKind.i64.wrap ((j : Int) + 1) = ((j + 1 : Nat) : Int) := w64 (by omega) (by omega)
        have ht : ((L.take (j + 1)).any fun y => y == v) = (((L.take j).any fun y => y == v) || (y == v)) := by
          rw [List.take_add_one, hy, List.any_append]
          simp
        generalize hB : ((L.take j).any fun y => y == v) = B at *
        clear hjl hj2 hB
        cases B with
        | true =>
          repeat' (first | refine ZV ?_ | refine ZB tm sp ?_ | refine ZH (fun hb => ?_) (fun hb => ?_) | refine ZJ (by conv => lhs; simp [p1, p2, hm, jw, gM]) ?_ | refine ZA (fun hb => ?_) (fun hb => ?_))
          exact ⟨⟨(j + 1, _), by dsimp only; omega, by simp [lk_st, gM]⟩, by dsimp only; omega, AS.le_of rfl ⟨rfl, rfl, rfl, rfl, by rw [ht]; rfl, rfl, rfl, rfl, rfl, rfl, trivial⟩ (fun _ => rfl)⟩
        | false =>
          repeat' (first | refine ZV ?_ | refine ZB tm sp ?_ | refine ZH (fun hb => ?_) (fun hb => ?_) | refine ZJ (by conv => lhs; simp [p1, p2, hm, jw, gM]) ?_ | refine ZA (fun hb => ?_) (fun hb => ?_))
          exact ⟨⟨(j + 1, _), by dsimp only; omega, by simp [lk_st, gM]⟩, by dsimp only; omega, AS.le_of rfl ⟨rfl, rfl, rfl, rfl, by rw [ht]; rfl, rfl, rfl, rfl, rfl, rfl, trivial⟩ (fun _ => rfl)⟩
end Go.Abs.Nh
namespace Go.Abs.Nh
open Go Go.Proofs Go.Abs
set_option maxRecDepth 100000
set_option maxHeartbeats 4000000
set_option linter.unusedSimpArgs false
set_option linter.unusedVariables false
theorem vcInt : Tryz.prog.cellsOf 3 = 1 := by kernel_rfl
theorem rowsInt {k : IntKind} : ∀ {rows : List (List AV)}, (∀ row ∈ rows, ∃ m, row = [AV.int k m] ∧ (Lit.int k m).wf = true) → ∃ L : List Int, (∀ n ∈ L, (Lit.int k n).wf = true) ∧ rows = L.map fun n => [AV.int k n]
  | [], _ => ⟨[], by simp, rfl⟩
  | r :: rs, h => by
    obtain ⟨l, hw, hl⟩ := rowsInt (rows := rs) fun row hr => h row (by simp [hr])
    obtain ⟨m, rfl, hm⟩ := h r (by simp)
    exact ⟨m :: l, by simpa using ⟨hm, hw⟩, by simp [hl]⟩
theorem shInts {x : AV} (h : TyV Tryz.prog 9 22 x) : ∃ l : List Int, l.length ≤ maxLen ∧ x = .list 1 (l.map ic) := by
  simp only [TyV, TyR, Tryz.underlying22, Tryz.underlying3, vcInt, List.cons.injEq, and_true] at h
  obtain ⟨rows, rfl, hl, h⟩ := h
  obtain ⟨L, _, rfl⟩ := rowsInt h
  exact ⟨L, by simpa using hl, rfl⟩
theorem shU64 {x : AV} (h : TyV Tryz.prog 9 23 x) : ∃ n : Nat, n < 18446744073709551616 ∧ x = .int .u64 (n : Nat) := by
  simp only [TyV, TyR, Tryz.underlying23, List.cons.injEq, and_true] at h
  obtain ⟨m, rfl, hm⟩ := h
  simp only [Lit.wf, Bool.and_eq_true, decide_eq_true_eq] at hm
  have h1 : (0 : Int) ≤ m := hm.1
  have h2 : m ≤ 18446744073709551615 := hm.2
  exact ⟨m.toNat, by omega, by rw [Int.toNat_of_nonneg h1]⟩
end Go.Abs.Nh
