/- What the program's way to pick computes, and the spreads. Conditions: none. -/
import Derived.Test.YtkmdhhcolbbifaaLpB
namespace Go.Abs.Lp
open Go Go.Proofs Go.Abs
set_option maxRecDepth 100000
set_option maxHeartbeats 4000000
attribute [local simp] runL stepA execA skipA opC opA allocA boxA newRowA newId AV.cellsOf run_ret run_fail run_get run_put run_asm num lk st lk_st putA AS.ev AV.cellish AV.isInl ofValue ofFlat builtinA lenA binA binOpA loadA mkv storeA putCells frzL frz1 splice indexAddrA fieldAddrA buildA fillA runF gdst pickA unOpA extractA resVs resV pack frzT inlT inlV frzV frzVs callX callA brwVs brwV brw1 brwL AV.flat AV.flat1 AV.flat2 specOf tz26 ts26 ta26 ts3 ta3 Ld.cells sliceA bndA gtS_eq ltS_eq
theorem tu22 : Try.prog.underlying 22 = some (.slice 26) := by kernel_rfl
def ordF (b : Bool) : AV := .fn (.func (if b then 12 else 13)) [] []
def encM (x : Ld × List Ld × Bool) : List AV := [.list 3 ((x.1 :: x.2.1).map Ld.cells), ordF x.2.2]
theorem encM_inj {β : Type} {f : Ld × List Ld × Bool → β} : ∀ x y, encM x = encM y → f x = f y := fun x y h => by
  obtain ⟨p, l, b⟩ := x
  obtain ⟨q, m, c⟩ := y
  simp only [encM, ordF, List.cons.injEq, AV.list.injEq, true_and, and_true, AV.fn.injEq] at h
  have hl := map_inj Ld.inj h.1
  simp only [List.cons.injEq] at hl
  rw [hl.1, hl.2]
  cases b <;> cases c <;> simp at h ⊢
def best (b : Bool) : Ld → Ld → Ld := if b then up else dn
noncomputable def mostS : SpecFn := mkS encM fun x => (.agg (x.2.1.foldl (best x.2.2) x.1).cells, [])
theorem mostS_eq (p : Ld) (r : List Ld) (b : Bool) : mostS [.list 3 ((p :: r).map Ld.cells), ordF b] [] = some (.agg (r.foldl (best b) p).cells, []) := mkS_eq encM_inj (p, r, b)
noncomputable def most_specs : NL Spec := [(12, ⟨0, gtS⟩), (13, ⟨0, ltS⟩)]
theorem most_specs_ok : ∀ p ∈ most_specs, FnC Try.prog p.1 p.2.fn := by
  simp only [most_specs, List.mem_cons, List.not_mem_nil, or_false]
  rintro p (rfl | rfl)
  · exact gt_ok
  · exact lt_ok
attribute [local simp] most_specs tu22
theorem most_walk (p : Ld) (r : List Ld) (b : Bool) : W Try.prog (Ret Try.prog Try.f11 (.agg (r.foldl (best b) p).cells) []) (codeOf Try.f11) [] ⟨27, [(0, .list 3 ((p :: r).map Ld.cells)), (1, ordF b)], []⟩ := by
  have ht : List.take r.length (List.map Ld.cells r) = List.map Ld.cells r := by simp [List.take_of_length_le]
  repeat (first | refine N.seq ?_ | refine N.blk ?_ | refine W.seq rfl ?_ | refine W.block rfl ?_ | refine W.skip rfl ?_ | refine W.ret rfl ?_ | refine N.nil ?_ | refine N.loop ?_ | refine W.exit rfl ?_ | refine X.seq ?_ | refine X.loop ?_ | refine X.hit ?_ | refine X.pass (by decide) ?_)
  refine W.region tm most_specs_ok rfl (by conv => lhs; simp) fun _ => ?_
  repeat (first | refine N.seq ?_ | refine N.blk ?_ | refine W.seq rfl ?_ | refine W.block rfl ?_ | refine W.skip rfl ?_ | refine W.ret rfl ?_ | refine N.nil ?_ | refine N.loop ?_ | refine W.exit rfl ?_ | refine X.seq ?_ | refine X.loop ?_ | refine X.hit ?_ | refine X.pass (by decide) ?_)
  refine W.region tm most_specs_ok rfl (by conv => lhs; simp) fun _ => ?_
  repeat (first | refine N.seq ?_ | refine N.blk ?_ | refine W.seq rfl ?_ | refine W.block rfl ?_ | refine W.skip rfl ?_ | refine W.ret rfl ?_ | refine N.nil ?_ | refine N.loop ?_ | refine W.exit rfl ?_ | refine X.seq ?_ | refine X.loop ?_ | refine X.hit ?_ | refine X.pass (by decide) ?_)
  refine W.region tm most_specs_ok rfl (by conv => lhs; simp [ht]) fun hlen => ?_
  repeat (first | refine N.seq ?_ | refine N.blk ?_ | refine W.seq rfl ?_ | refine W.block rfl ?_ | refine W.skip rfl ?_ | refine W.ret rfl ?_ | refine N.nil ?_ | refine N.loop ?_ | refine W.exit rfl ?_ | refine X.seq ?_ | refine X.loop ?_ | refine X.hit ?_ | refine X.pass (by decide) ?_)
  refine W.loop rfl (ι := { q : Nat × NL ABlk // q.1 ≤ r.length ∧ lk q.2 80 = some (cell Ld.zero) ∧ lk q.2 96 = some (cell ((r.take q.1).foldl (best b) p)) })
    (fun q => ⟨27, [(1, ordF b), (4, .ptr 80 1 0 0), (5, .ptr 96 1 0 0), (12, .list 3 (r.map Ld.cells)), (13, .int .i64 r.length), (14, .int .i64 q.1.1)], q.1.2⟩) (fun q => r.length - q.1.1)
    ⟨(0, _), by simp, by rfl, by rfl⟩ (AS.le_of rfl (by simp [tmpsIn]) (fun _ => rfl)) ?_
  rintro ⟨⟨i, h⟩, hi, h80, h96⟩
  dsimp only at hi h80 h96 ⊢
  generalize ha : (r.take i).foldl (best b) p = a at h96
  repeat (first | refine N.seq ?_ | refine N.blk ?_ | refine W.seq rfl ?_ | refine W.block rfl ?_ | refine W.skip rfl ?_ | refine W.ret rfl ?_ | refine N.nil ?_ | refine N.loop ?_ | refine W.exit rfl ?_ | refine X.seq ?_ | refine X.loop ?_ | refine X.hit ?_ | refine X.pass (by decide) ?_ | refine W.region tm most_specs_ok rfl (by conv => lhs; simp) fun _ => ?_ | refine W.regionD tm most_specs_ok rfl (by conv => lhs; simp) (by conv => lhs; simp) (by kernel_rfl) fun _ => ?_)
  refine W.cond rfl (by rfl) (fun hb => ?_) (fun hb => ?_)
  · simp only [decide_eq_true_eq] at hb
    have hi' : i < r.length := by omega
    obtain ⟨x, hli⟩ := get_lt hi'
    have hA : (r.take (i + 1)).foldl (best b) p = best b a x := by rw [fold_step (best b) p hli, ha]
    cases b
    all_goals
      repeat (first | refine N.seq ?_ | refine N.blk ?_ | refine W.seq rfl ?_ | refine W.block rfl ?_ | refine W.skip rfl ?_ | refine W.ret rfl ?_ | refine N.nil ?_ | refine N.loop ?_ | refine W.exit rfl ?_ | refine X.seq ?_ | refine X.loop ?_ | refine X.hit ?_ | refine X.pass (by decide) ?_ | refine W.region tm most_specs_ok rfl (by conv => lhs; simp [hli, h96, cell, ordF]) fun _ => ?_ | refine W.regionD tm most_specs_ok rfl (by conv => lhs; simp [hli, h96, cell, ordF]) (by conv => lhs; simp) (by kernel_rfl) fun _ => ?_)
      refine W.cond rfl (by rfl) (fun h1 => ?_) (fun h1 => ?_)
      all_goals
        simp only [decide_eq_true_eq, decide_eq_false_iff_not] at h1
        repeat (first | refine N.seq ?_ | refine N.blk ?_ | refine W.seq rfl ?_ | refine W.block rfl ?_ | refine W.skip rfl ?_ | refine W.ret rfl ?_ | refine N.nil ?_ | refine N.loop ?_ | refine W.exit rfl ?_ | refine X.seq ?_ | refine X.loop ?_ | refine X.hit ?_ | refine X.pass (by decide) ?_ | refine W.region tm most_specs_ok rfl (by conv => lhs; simp [hli, h96, cell, w64_succ hi' hlen]) fun _ => ?_ | refine W.regionD tm most_specs_ok rfl (by conv => lhs; simp [hli, h96, cell, w64_succ hi' hlen]) (by conv => lhs; simp) (by kernel_rfl) fun _ => ?_)
        refine ⟨⟨(i + 1, _), hi', ?_, ?_⟩, by dsimp only; omega, AS.le_of rfl (by simp [tmpsIn, ordF]) (fun _ => rfl)⟩
        · simp [lk_st, h80, cell]
        · rw [hA]
          simp [lk_st, h96, cell, best, up, dn, h1]
  · simp only [decide_eq_false_iff_not] at hb
    have hil : i = r.length := by omega
    rw [hil, List.take_length] at ha
    repeat (first | refine N.seq ?_ | refine N.blk ?_ | refine W.seq rfl ?_ | refine W.block rfl ?_ | refine W.skip rfl ?_ | refine W.ret rfl ?_ | refine N.nil ?_ | refine N.loop ?_ | refine W.exit rfl ?_ | refine X.seq ?_ | refine X.loop ?_ | refine X.hit ?_ | refine X.pass (by decide) ?_ | refine W.region tm most_specs_ok rfl (by conv => lhs; simp [h80, h96, cell]) fun _ => ?_ | refine W.regionD tm most_specs_ok rfl (by conv => lhs; simp [h80, h96, cell]) (by conv => lhs; simp) (by kernel_rfl) fun _ => ?_)
    rw [ha]
    simp only [Ld.cells]
    exact Ret.data rfl (by conv => lhs; simp [h80, h96, cell]) (by conv => lhs; simp [h80, h96, cell]) (by rfl)
theorem most_ok : FnC Try.prog 11 mostS := FnC.walk 11 (fn := Try.f11) Try.func11 rfl (by kernel_rfl) fun x => most_walk x.1 x.2.1 x.2.2

/-! ### Both picks, and the spreads -/
noncomputable def pickS : SpecFn := mkS encLs fun l => (pickV l, [])
theorem pickS_eq (l : List Ld) : pickS [.list 3 (l.map Ld.cells)] [] = some (pickV l, []) := mkS_eq encLs_inj l
noncomputable def pick_specs : NL Spec := [(11, ⟨0, mostS⟩)]
theorem pick_specs_ok : ∀ p ∈ pick_specs, FnC Try.prog p.1 p.2.fn := by
  simp only [pick_specs, List.mem_cons, List.not_mem_nil, or_false]
  rintro p rfl
  exact most_ok
attribute [local simp] pick_specs
theorem fold_self (f : Ld → Ld → Ld) (p : Ld) (r : List Ld) (h : f p p = p) : (p :: r).foldl f p = r.foldl f p := by simp [h]
theorem pick_ok : FnC Try.prog 6 pickS := by
  refine FnC.walk 6 (fn := Try.f6) Try.func6 rfl (by kernel_rfl) fun l => ?_
  change W _ _ _ _ ⟨14, [(0, .list 3 (l.map Ld.cells))], []⟩
  repeat (first | refine N.seq ?_ | refine N.blk ?_ | refine W.seq rfl ?_ | refine W.block rfl ?_ | refine W.skip rfl ?_ | refine W.ret rfl ?_ | refine N.nil ?_ | refine N.loop ?_ | refine W.exit rfl ?_ | refine X.seq ?_ | refine X.loop ?_ | refine X.hit ?_ | refine X.pass (by decide) ?_)
  refine W.region tm pick_specs_ok rfl (by conv => lhs; simp) fun _ => ?_
  repeat (first | refine N.seq ?_ | refine N.blk ?_ | refine W.seq rfl ?_ | refine W.block rfl ?_ | refine W.skip rfl ?_ | refine W.ret rfl ?_ | refine N.nil ?_ | refine N.loop ?_ | refine W.exit rfl ?_ | refine X.seq ?_ | refine X.loop ?_ | refine X.hit ?_ | refine X.pass (by decide) ?_)
  refine W.region tm pick_specs_ok rfl (by conv => lhs; simp) fun hlen => ?_
  repeat (first | refine N.seq ?_ | refine N.blk ?_ | refine W.seq rfl ?_ | refine W.block rfl ?_ | refine W.skip rfl ?_ | refine W.ret rfl ?_ | refine N.nil ?_ | refine N.loop ?_ | refine W.exit rfl ?_ | refine X.seq ?_ | refine X.loop ?_ | refine X.hit ?_ | refine X.pass (by decide) ?_)
  refine W.cond rfl (by rfl) (fun hb => ?_) (fun hb => ?_)
  · have hz : pick l = (Ld.zero, Ld.zero, false) := by
      simp only [decide_eq_true_eq] at hb
      match l, hb with
      | [], _ => rfl
      | [_], _ => rfl
      | _ :: _ :: _, hb => simp at hb; omega
    repeat (first | refine N.seq ?_ | refine N.blk ?_ | refine W.seq rfl ?_ | refine W.block rfl ?_ | refine W.skip rfl ?_ | refine W.ret rfl ?_ | refine N.nil ?_ | refine N.loop ?_ | refine W.exit rfl ?_ | refine X.seq ?_ | refine X.loop ?_ | refine X.hit ?_ | refine X.pass (by decide) ?_ | refine W.region tm pick_specs_ok rfl (by conv => lhs; simp) fun _ => ?_ | refine W.regionD tm pick_specs_ok rfl (by conv => lhs; simp) (by conv => lhs; simp) (by kernel_rfl) fun _ => ?_)
    simp only [pickV, hz, Ld.cells, Ld.zero]
    exact Ret.data rfl (by conv => lhs; simp) (by conv => lhs; simp) (by rfl)
  · simp only [decide_eq_false_iff_not] at hb
    have hl2 : 2 ≤ l.length := by omega
    obtain ⟨p, q, r, hl⟩ : ∃ p q r, l = p :: q :: r := by
      match l, hl2 with
      | p :: q :: r, _ => exact ⟨p, q, r, rfl⟩
    have h1 : mostS [.list 3 (l.map Ld.cells), .fn (.func 12) [] []] [] = some (.agg (pick l).1.cells, []) := by
      rw [hl]
      refine (mostS_eq p (q :: r) true).trans ?_
      rw [← fold_self (best true) p (q :: r) (by simp [best, up])]
      rfl
    have h2 : mostS [.list 3 (l.map Ld.cells), .fn (.func 13) [] []] [] = some (.agg (pick l).2.1.cells, []) := by
      rw [hl]
      refine (mostS_eq p (q :: r) false).trans ?_
      rw [← fold_self (best false) p (q :: r) (by simp [best, dn])]
      rfl
    have h3 : (pick l).2.2 = true := by rw [hl]; rfl
    repeat (first | refine N.seq ?_ | refine N.blk ?_ | refine W.seq rfl ?_ | refine W.block rfl ?_ | refine W.skip rfl ?_ | refine W.ret rfl ?_ | refine N.nil ?_ | refine N.loop ?_ | refine W.exit rfl ?_ | refine X.seq ?_ | refine X.loop ?_ | refine X.hit ?_ | refine X.pass (by decide) ?_ | refine W.region tm pick_specs_ok rfl (by conv => lhs; simp [h1, h2]) fun _ => ?_ | refine W.regionD tm pick_specs_ok rfl (by conv => lhs; simp [h1, h2]) (by conv => lhs; simp) (by kernel_rfl) fun _ => ?_)
    simp only [pickV, h3, Ld.cells]
    exact Ret.data rfl (by conv => lhs; simp) (by conv => lhs; simp) (by rfl)
def spread (l : List Ld) : Int := if (pick l).2.2 then IntKind.i64.wrap ((pick l).1.avg - (pick l).2.1.avg) else 0
noncomputable def spreadS : SpecFn := mkS encLs fun l => (.int .i64 (spread l), [])
theorem spreadS_eq (l : List Ld) : spreadS [.list 3 (l.map Ld.cells)] [] = some (.int .i64 (spread l), []) := mkS_eq encLs_inj l
noncomputable def sp_specs : NL Spec := [(6, ⟨0, pickS⟩), (7, ⟨0, refPickS⟩)]
theorem sp_specs_ok : ∀ p ∈ sp_specs, FnC Try.prog p.1 p.2.fn := by
  simp only [sp_specs, List.mem_cons, List.not_mem_nil, or_false]
  rintro p (rfl | rfl)
  · exact pick_ok
  · exact refPick_ok
attribute [local simp] sp_specs pickS_eq refPickS_eq pickV
theorem spread_ok : FnC Try.prog 8 spreadS := by
  refine FnC.walk 8 (fn := Try.f8) Try.func8 rfl (by kernel_rfl) fun l => ?_
  change W _ _ _ _ ⟨19, [(0, .list 3 (l.map Ld.cells))], []⟩
  repeat (first | refine N.seq ?_ | refine N.blk ?_ | refine W.seq rfl ?_ | refine W.block rfl ?_ | refine W.skip rfl ?_ | refine W.ret rfl ?_ | refine N.nil ?_ | refine N.loop ?_ | refine W.exit rfl ?_ | refine X.seq ?_ | refine X.loop ?_ | refine X.hit ?_ | refine X.pass (by decide) ?_ | refine W.region tm sp_specs_ok rfl (by conv => lhs; simp) fun _ => ?_ | refine W.regionD tm sp_specs_ok rfl (by conv => lhs; simp) (by conv => lhs; simp) (by kernel_rfl) fun _ => ?_)
  refine W.cond rfl (by rfl) (fun hb => ?_) (fun hb => ?_)
  · simp at hb
    repeat (first | refine N.seq ?_ | refine N.blk ?_ | refine W.seq rfl ?_ | refine W.block rfl ?_ | refine W.skip rfl ?_ | refine W.ret rfl ?_ | refine N.nil ?_ | refine N.loop ?_ | refine W.exit rfl ?_ | refine X.seq ?_ | refine X.loop ?_ | refine X.hit ?_ | refine X.pass (by decide) ?_ | refine W.region tm sp_specs_ok rfl (by conv => lhs; simp) fun _ => ?_ | refine W.regionD tm sp_specs_ok rfl (by conv => lhs; simp) (by conv => lhs; simp) (by kernel_rfl) fun _ => ?_)
    rw [show spread l = 0 by simp [spread, hb]]
    exact Ret.data rfl (by conv => lhs; simp) (by conv => lhs; simp) (by rfl)
  · simp at hb
    repeat (first | refine N.seq ?_ | refine N.blk ?_ | refine W.seq rfl ?_ | refine W.block rfl ?_ | refine W.skip rfl ?_ | refine W.ret rfl ?_ | refine N.nil ?_ | refine N.loop ?_ | refine W.exit rfl ?_ | refine X.seq ?_ | refine X.loop ?_ | refine X.hit ?_ | refine X.pass (by decide) ?_ | refine W.region tm sp_specs_ok rfl (by conv => lhs; simp) fun _ => ?_ | refine W.regionD tm sp_specs_ok rfl (by conv => lhs; simp) (by conv => lhs; simp) (by kernel_rfl) fun _ => ?_)
    simp only [spread, hb, if_true]
    exact Ret.data rfl (by conv => lhs; simp) (by conv => lhs; simp) (by rfl)
theorem refSpread_ok : FnC Try.prog 9 spreadS := by
  refine FnC.walk 9 (fn := Try.f9) Try.func9 rfl (by kernel_rfl) fun l => ?_
  change W _ _ _ _ ⟨17, [(0, .list 3 (l.map Ld.cells))], []⟩
  repeat (first | refine N.seq ?_ | refine N.blk ?_ | refine W.seq rfl ?_ | refine W.block rfl ?_ | refine W.skip rfl ?_ | refine W.ret rfl ?_ | refine N.nil ?_ | refine N.loop ?_ | refine W.exit rfl ?_ | refine X.seq ?_ | refine X.loop ?_ | refine X.hit ?_ | refine X.pass (by decide) ?_ | refine W.region tm sp_specs_ok rfl (by conv => lhs; simp) fun _ => ?_ | refine W.regionD tm sp_specs_ok rfl (by conv => lhs; simp) (by conv => lhs; simp) (by kernel_rfl) fun _ => ?_)
  have hs : IntKind.i64.wrap ((pick l).1.avg - (pick l).2.1.avg) = spread l := by
    unfold spread
    match l with
    | [] => rfl
    | [_] => rfl
    | _ :: _ :: _ => rfl
  rw [← hs]
  exact Ret.data rfl (by conv => lhs; simp) (by conv => lhs; simp) (by rfl)
end Go.Abs.Lp
