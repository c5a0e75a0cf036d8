/- What the two ways to pick the busiest and the least busy node compute. Conditions: none. -/
import Derived.Test.YtkmdhhcolbbifaaLpA
namespace Go.Abs.Lp
open Go Go.Proofs Go.Abs
set_option maxRecDepth 100000
set_option maxHeartbeats 4000000
attribute [local simp] runL stepA execA skipA opC opA allocA boxA newRowA newId AV.cellsOf run_ret run_fail run_get run_put run_asm num lk st lk_st putA AS.ev AV.cellish AV.isInl ofValue ofFlat builtinA lenA binA binOpA loadA mkv storeA putCells frzL frz1 splice indexAddrA fieldAddrA buildA fillA runF gdst pickA unOpA extractA resVs resV pack frzT inlT inlV frzV frzVs callX callA brwVs brwV brw1 brwL AV.flat AV.flat1 AV.flat2 specOf tz26 ts26 ta26 ts3 ta3 Ld.cells sliceA bndA calmS_eq gtS_eq ltS_eq
def up (a x : Ld) : Ld := if x.avg > a.avg then x else a
def dn (a x : Ld) : Ld := if x.avg < a.avg then x else a
def Ld.zero : Ld := ⟨0, 0, 0⟩
def pick (l : List Ld) : Ld × Ld × Bool := match l with
  | p :: q :: r => ((p :: q :: r).foldl up p, (p :: q :: r).foldl dn p, true)
  | _ => (Ld.zero, Ld.zero, false)
def pickV (l : List Ld) : AV := .tup [.agg (pick l).1.cells, .agg (pick l).2.1.cells, .bool (pick l).2.2]
theorem fold_step {α : Type} (f : α → Ld → α) (z : α) {l : List Ld} {i : Nat} {x : Ld} (hx : l[i]? = some x) : (l.take (i + 1)).foldl f z = f ((l.take i).foldl f z) x := by
  rw [List.take_add_one, hx]
  simp
noncomputable def refPickS : SpecFn := mkS encLs fun l => (pickV l, [])
theorem refPickS_eq (l : List Ld) : refPickS [.list 3 (l.map Ld.cells)] [] = some (pickV l, []) := mkS_eq encLs_inj l
def cell (x : Ld) : ABlk := { gen := 1, kind := 2, elem := 26, size := 3, rows := [x.cells] }
theorem refPick_ok : FnC Try.prog 7 refPickS := by
  refine FnC.walk 7 (fn := Try.f7) Try.func7 rfl (by kernel_rfl) fun l => ?_
  change W _ _ _ _ ⟨51, [(0, .list 3 (l.map Ld.cells))], []⟩
  repeat (first | refine N.seq ?_ | refine N.blk ?_ | refine W.seq rfl ?_ | refine W.block rfl ?_ | refine W.skip rfl ?_ | refine W.ret rfl ?_ | refine N.nil ?_ | refine N.loop ?_ | refine W.exit rfl ?_ | refine X.seq ?_ | refine X.loop ?_ | refine X.hit ?_ | refine X.pass (by decide) ?_)
  refine W.region tm no_specs rfl (by conv => lhs; simp) fun _ => ?_
  repeat (first | refine N.seq ?_ | refine N.blk ?_ | refine W.seq rfl ?_ | refine W.block rfl ?_ | refine W.skip rfl ?_ | refine W.ret rfl ?_ | refine N.nil ?_ | refine N.loop ?_ | refine W.exit rfl ?_ | refine X.seq ?_ | refine X.loop ?_ | refine X.hit ?_ | refine X.pass (by decide) ?_)
  refine W.region tm no_specs rfl (by conv => lhs; simp) fun hlen => ?_
  repeat (first | refine N.seq ?_ | refine N.blk ?_ | refine W.seq rfl ?_ | refine W.block rfl ?_ | refine W.skip rfl ?_ | refine W.ret rfl ?_ | refine N.nil ?_ | refine N.loop ?_ | refine W.exit rfl ?_ | refine X.seq ?_ | refine X.loop ?_ | refine X.hit ?_ | refine X.pass (by decide) ?_)
  refine W.cond rfl (by rfl) (fun hb => ?_) (fun hb => ?_)
  · have hz : pick l = (Ld.zero, Ld.zero, false) := by
      simp only [decide_eq_true_eq] at hb
      match l, hb with
      | [], _ => rfl
      | [_], _ => rfl
      | _ :: _ :: _, hb => simp at hb; omega
    repeat (first | refine N.seq ?_ | refine N.blk ?_ | refine W.seq rfl ?_ | refine W.block rfl ?_ | refine W.skip rfl ?_ | refine W.ret rfl ?_ | refine N.nil ?_ | refine N.loop ?_ | refine W.exit rfl ?_ | refine X.seq ?_ | refine X.loop ?_ | refine X.hit ?_ | refine X.pass (by decide) ?_ | refine W.region tm no_specs rfl (by conv => lhs; simp) fun _ => ?_ | refine W.regionD tm no_specs rfl (by conv => lhs; simp) (by conv => lhs; simp) (by kernel_rfl) fun _ => ?_)
    simp only [pickV, hz, Ld.cells, Ld.zero]
    exact Ret.data rfl (by conv => lhs; simp) (by conv => lhs; simp) (by rfl)
  · simp only [decide_eq_false_iff_not] at hb
    have hl2 : 2 ≤ l.length := by omega
    obtain ⟨p, h0⟩ := get_lt (l := l) (i := 0) (by omega)
    have hup : up p p = p := by simp [up]
    have hdn : dn p p = p := by simp [dn]
    repeat (first | refine N.seq ?_ | refine N.blk ?_ | refine W.seq rfl ?_ | refine W.block rfl ?_ | refine W.skip rfl ?_ | refine W.ret rfl ?_ | refine N.nil ?_ | refine N.loop ?_ | refine W.exit rfl ?_ | refine X.seq ?_ | refine X.loop ?_ | refine X.hit ?_ | refine X.pass (by decide) ?_ | refine W.region tm no_specs rfl (by conv => lhs; simp [h0]) fun _ => ?_ | refine W.regionD tm no_specs rfl (by conv => lhs; simp [h0]) (by conv => lhs; simp) (by kernel_rfl) fun _ => ?_)
    refine W.loop rfl (ι := { q : Nat × NL ABlk // 1 ≤ q.1 ∧ q.1 ≤ l.length ∧ lk q.2 48 = some (cell Ld.zero) ∧ lk q.2 64 = some (cell Ld.zero) ∧ lk q.2 96 = some (cell ((l.take q.1).foldl up p)) ∧ lk q.2 112 = some (cell ((l.take q.1).foldl dn p)) })
      (fun q => ⟨51, [(0, .list 3 (l.map Ld.cells)), (2, .ptr 48 1 0 0), (3, .ptr 64 1 0 0), (5, .ptr 96 1 0 0), (6, .ptr 112 1 0 0), (7, .int .i64 q.1.1)], q.1.2⟩) (fun q => l.length - q.1.1)
      ⟨(1, _), by dsimp only; omega, by dsimp only; omega, by rfl, by rfl, ?a, ?b⟩ (AS.le_of rfl (by simp [tmpsIn]) (fun _ => rfl)) ?_
    case a => rw [fold_step up p h0]; simp only [List.take_zero, List.foldl_nil, hup]; rfl
    case b => rw [fold_step dn p h0]; simp only [List.take_zero, List.foldl_nil, hdn]; rfl
    rintro ⟨⟨i, h⟩, hi1, hi, h48, h64, h96, h112⟩
    dsimp only at hi1 hi h48 h64 h96 h112 ⊢
    generalize ha : (l.take i).foldl up p = a at h96
    generalize hc : (l.take i).foldl dn p = c at h112
    repeat (first | refine N.seq ?_ | refine N.blk ?_ | refine W.seq rfl ?_ | refine W.block rfl ?_ | refine W.skip rfl ?_ | refine W.ret rfl ?_ | refine N.nil ?_ | refine N.loop ?_ | refine W.exit rfl ?_ | refine X.seq ?_ | refine X.loop ?_ | refine X.hit ?_ | refine X.pass (by decide) ?_ | refine W.region tm no_specs rfl (by conv => lhs; simp) fun _ => ?_ | refine W.regionD tm no_specs rfl (by conv => lhs; simp) (by conv => lhs; simp) (by kernel_rfl) fun _ => ?_)
    refine W.cond rfl (by rfl) (fun hb => ?_) (fun hb => ?_)
    · simp only [decide_eq_true_eq] at hb
      have hi' : i < l.length := by omega
      obtain ⟨x, hli⟩ := get_lt hi'
      have hA : (l.take (i + 1)).foldl up p = up a x := by rw [fold_step up p hli, ha]
      have hC : (l.take (i + 1)).foldl dn p = dn c x := by rw [fold_step dn p hli, hc]
      repeat (first | refine N.seq ?_ | refine N.blk ?_ | refine W.seq rfl ?_ | refine W.block rfl ?_ | refine W.skip rfl ?_ | refine W.ret rfl ?_ | refine N.nil ?_ | refine N.loop ?_ | refine W.exit rfl ?_ | refine X.seq ?_ | refine X.loop ?_ | refine X.hit ?_ | refine X.pass (by decide) ?_ | refine W.region tm no_specs rfl (by conv => lhs; simp [hli, h96, h112, cell]) fun _ => ?_ | refine W.regionD tm no_specs rfl (by conv => lhs; simp [hli, h96, h112, cell]) (by conv => lhs; simp) (by kernel_rfl) fun _ => ?_)
      refine W.cond rfl (by rfl) (fun h1 => ?_) (fun h1 => ?_)
      all_goals
        simp only [decide_eq_true_eq, decide_eq_false_iff_not] at h1
        repeat (first | refine N.seq ?_ | refine N.blk ?_ | refine W.seq rfl ?_ | refine W.block rfl ?_ | refine W.skip rfl ?_ | refine W.ret rfl ?_ | refine N.nil ?_ | refine N.loop ?_ | refine W.exit rfl ?_ | refine X.seq ?_ | refine X.loop ?_ | refine X.hit ?_ | refine X.pass (by decide) ?_ | refine W.region tm no_specs rfl (by conv => lhs; simp [hli, h96, h112, cell]) fun _ => ?_ | refine W.regionD tm no_specs rfl (by conv => lhs; simp [hli, h96, h112, cell]) (by conv => lhs; simp) (by kernel_rfl) fun _ => ?_)
        refine W.cond rfl (by rfl) (fun h2 => ?_) (fun h2 => ?_)
        all_goals
          simp only [decide_eq_true_eq, decide_eq_false_iff_not] at h2
          repeat (first | refine N.seq ?_ | refine N.blk ?_ | refine W.seq rfl ?_ | refine W.block rfl ?_ | refine W.skip rfl ?_ | refine W.ret rfl ?_ | refine N.nil ?_ | refine N.loop ?_ | refine W.exit rfl ?_ | refine X.seq ?_ | refine X.loop ?_ | refine X.hit ?_ | refine X.pass (by decide) ?_ | refine W.region tm no_specs rfl (by conv => lhs; simp [hli, h96, h112, cell, w64_succ hi' hlen]) fun _ => ?_ | refine W.regionD tm no_specs rfl (by conv => lhs; simp [hli, h96, h112, cell, w64_succ hi' hlen]) (by conv => lhs; simp) (by kernel_rfl) fun _ => ?_)
          refine ⟨⟨(i + 1, _), by dsimp only; omega, hi', ?_, ?_, ?_, ?_⟩, by dsimp only; omega, AS.le_of rfl (by simp [tmpsIn]) (fun _ => rfl)⟩
          · simp [lk_st, h48, cell]
          · simp [lk_st, h64, cell]
          · rw [hA]
            simp [lk_st, h96, cell, up, h1]
          · rw [hC]
            simp [lk_st, h112, cell, dn, h2]
    · simp only [decide_eq_false_iff_not] at hb
      have hil : i = l.length := by omega
      rw [hil, List.take_length] at ha hc
      repeat (first | refine N.seq ?_ | refine N.blk ?_ | refine W.seq rfl ?_ | refine W.block rfl ?_ | refine W.skip rfl ?_ | refine W.ret rfl ?_ | refine N.nil ?_ | refine N.loop ?_ | refine W.exit rfl ?_ | refine X.seq ?_ | refine X.loop ?_ | refine X.hit ?_ | refine X.pass (by decide) ?_ | refine W.region tm no_specs rfl (by conv => lhs; simp [h48, h64, h96, h112, cell]) fun _ => ?_ | refine W.regionD tm no_specs rfl (by conv => lhs; simp [h48, h64, h96, h112, cell]) (by conv => lhs; simp) (by kernel_rfl) fun _ => ?_)
      clear h48 h64 h96 h112
      have hp : pick l = (a, c, true) := by
        match l, h0, ha, hc, hl2 with
        | [], _, _, _, hl2 => simp at hl2
        | [_], _, _, _, hl2 => simp at hl2
        | p' :: q :: r, h0, ha, hc, _ =>
          simp only [List.getElem?_cons_zero, Option.some.injEq] at h0
          subst h0
          simp only [pick, ha, hc]
      simp only [pickV, hp, Ld.cells]
      exact Ret.data rfl (by conv => lhs; simp) (by conv => lhs; simp) (by rfl)
end Go.Abs.Lp
