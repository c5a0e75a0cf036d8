/- What the functions of the layer 'load' that take no view compute, and their reference. Conditions: none. -/
import Derived.Test.YtkmdhhcolbbifaaAbsQ
import Derived.Test.YtkmdhhcolbbifaaProg
import Derived.KernelRfl
namespace Go.Abs.Lp
open Go Go.Proofs Go.Abs
set_option maxRecDepth 100000
theorem tm : Try.prog.follows .mixedOrders = true := by kernel_rfl
theorem tz26 : zeroA Try.prog 26 = some (.agg [.int .i64 0, .int .i64 0, .int .i64 0]) := by kernel_rfl
theorem ts26 : szOf Try.prog 26 = some 3 := by kernel_rfl
theorem ta26 : aggT Try.prog 26 = some true := by kernel_rfl
theorem ts3 : szOf Try.prog 3 = some 1 := by kernel_rfl
theorem ta3 : aggT Try.prog 3 = some false := by kernel_rfl
structure Ld where
  node : Int
  now : Int
  avg : Int
  deriving DecidableEq, Inhabited
def Ld.cells (p : Ld) : List AV := [.int .i64 p.node, .int .i64 p.now, .int .i64 p.avg]
theorem Ld.inj (a b : Ld) (h : a.cells = b.cells) : a = b := by
  cases a; cases b
  simp only [Ld.cells, List.cons.injEq, AV.int.injEq] at h
  obtain ⟨⟨_, rfl⟩, ⟨_, rfl⟩, ⟨_, rfl⟩, _⟩ := h
  rfl
def encLs (l : List Ld) : List AV := [.list 3 (l.map Ld.cells)]
theorem encLs_inj {β : Type} {f : List Ld → β} : ∀ x y, encLs x = encLs y → f x = f y := fun x y h => by
  simp only [encLs, List.cons.injEq, AV.list.injEq, true_and, and_true] at h
  rw [map_inj Ld.inj h]
def okL (x : Ld) : Bool := !(decide (x.avg > 1125899906842624) || decide (x.avg < -1125899906842624))
def calm (l : List Ld) : Bool := l.all okL && decide (l.length ≤ 20)
attribute [local simp] runL stepA execA skipA opC opA allocA boxA newRowA newId AV.cellsOf run_ret run_fail run_get run_put run_asm num lk st lk_st putA AS.ev AV.cellish AV.isInl ofValue ofFlat builtinA lenA binA binOpA loadA mkv storeA putCells frzL frz1 splice indexAddrA fieldAddrA buildA fillA runF gdst pickA unOpA extractA resVs resV pack frzT inlT inlV frzV frzVs callX callA brwVs brwV brw1 brwL AV.flat AV.flat1 AV.flat2 specOf tz26 ts26 ta26 ts3 ta3 Ld.cells
set_option maxHeartbeats 4000000
theorem calm_step {l : List Ld} {i : Nat} {x : Ld} (hx : l[i]? = some x) : (l.take (i + 1)).all okL = ((l.take i).all okL && okL x) := by
  rw [List.take_add_one, hx]
  simp
theorem calm_bad {l : List Ld} {i : Nat} {x : Ld} (hx : l[i]? = some x) (h : okL x = false) : calm l = false := by
  unfold calm
  have : l.all okL = false := by
    rw [← Bool.not_eq_true, List.all_eq_true]
    intro hh
    rw [hh x (List.mem_of_getElem? hx)] at h
    cases h
  simp [this]
noncomputable def calmS : SpecFn := mkS encLs fun l => (.bool (calm l), [])
theorem calmS_eq (l : List Ld) : calmS [.list 3 (l.map Ld.cells)] [] = some (.bool (calm l), []) := mkS_eq encLs_inj l
theorem calm_ok : FnC Try.prog 5 calmS := by
  refine FnC.walk 5 (fn := Try.f5) Try.func5 rfl (by kernel_rfl) fun l => ?_
  change W _ _ _ _ ⟨23, [(0, .list 3 (l.map Ld.cells))], []⟩
  repeat (first | refine N.seq ?_ | refine N.blk ?_ | refine W.seq rfl ?_ | refine W.block rfl ?_ | refine W.skip rfl ?_ | refine W.ret rfl ?_ | refine N.nil ?_ | refine N.loop ?_ | refine W.exit rfl ?_ | refine X.seq ?_ | refine X.loop ?_ | refine X.hit ?_ | refine X.pass (by decide) ?_)
  refine W.region tm no_specs rfl (by conv => lhs; simp) fun _ => ?_
  repeat (first | refine N.seq ?_ | refine N.blk ?_ | refine W.seq rfl ?_ | refine W.block rfl ?_ | refine W.skip rfl ?_ | refine W.ret rfl ?_ | refine N.nil ?_ | refine N.loop ?_ | refine W.exit rfl ?_ | refine X.seq ?_ | refine X.loop ?_ | refine X.hit ?_ | refine X.pass (by decide) ?_)
  refine W.region tm no_specs rfl (by conv => lhs; simp) fun hlen => ?_
  repeat (first | refine N.seq ?_ | refine N.blk ?_ | refine W.seq rfl ?_ | refine W.block rfl ?_ | refine W.skip rfl ?_ | refine W.ret rfl ?_ | refine N.nil ?_ | refine N.loop ?_ | refine W.exit rfl ?_ | refine X.seq ?_ | refine X.loop ?_ | refine X.hit ?_ | refine X.pass (by decide) ?_)
  refine W.loop rfl (ι := { p : Nat × NL ABlk // p.1 ≤ l.length ∧ (l.take p.1).all okL = true }) (fun p => ⟨23, [(0, .list 3 (l.map Ld.cells)), (5, .list 3 (l.map Ld.cells)), (6, .int .i64 l.length), (7, .int .i64 p.1.1)], p.1.2⟩) (fun p => l.length - p.1.1) ⟨(0, []), by simp⟩ (AS.le_of rfl (by simp [tmpsIn]) (fun _ => rfl)) ?_
  rintro ⟨⟨i, h⟩, hi, hok⟩
  dsimp only at hi hok ⊢
  repeat (first | refine N.seq ?_ | refine N.blk ?_ | refine W.seq rfl ?_ | refine W.block rfl ?_ | refine W.skip rfl ?_ | refine W.ret rfl ?_ | refine N.nil ?_ | refine N.loop ?_ | refine W.exit rfl ?_ | refine X.seq ?_ | refine X.loop ?_ | refine X.hit ?_ | refine X.pass (by decide) ?_ | refine W.region tm no_specs rfl (by conv => lhs; simp) fun _ => ?_ | refine W.regionD tm no_specs rfl (by conv => lhs; simp) (by conv => lhs; simp) (by kernel_rfl) fun _ => ?_)
  refine W.cond rfl (by rfl) (fun hb => ?_) (fun hb => ?_)
  · simp only [decide_eq_true_eq] at hb
    have hi' : i < l.length := by omega
    obtain ⟨x, hli⟩ := get_lt hi'
    repeat (first | refine N.seq ?_ | refine N.blk ?_ | refine W.seq rfl ?_ | refine W.block rfl ?_ | refine W.skip rfl ?_ | refine W.ret rfl ?_ | refine N.nil ?_ | refine N.loop ?_ | refine W.exit rfl ?_ | refine X.seq ?_ | refine X.loop ?_ | refine X.hit ?_ | refine X.pass (by decide) ?_)
    refine W.region tm no_specs rfl (by conv => lhs; simp [hli]) fun _ => ?_
    repeat (first | refine N.seq ?_ | refine N.blk ?_ | refine W.seq rfl ?_ | refine W.block rfl ?_ | refine W.skip rfl ?_ | refine W.ret rfl ?_ | refine N.nil ?_ | refine N.loop ?_ | refine W.exit rfl ?_ | refine X.seq ?_ | refine X.loop ?_ | refine X.hit ?_ | refine X.pass (by decide) ?_)
    by_cases h1 : x.avg > 1125899906842624
    · refine W.region tm no_specs rfl (by conv => lhs; simp [h1]) fun _ => ?_
      repeat (first | refine N.seq ?_ | refine N.blk ?_ | refine W.seq rfl ?_ | refine W.block rfl ?_ | refine W.skip rfl ?_ | refine W.ret rfl ?_ | refine N.nil ?_ | refine N.loop ?_ | refine W.exit rfl ?_ | refine X.seq ?_ | refine X.loop ?_ | refine X.hit ?_ | refine X.pass (by decide) ?_)
      refine W.cond rfl (by rfl) (fun hb => ?_) (fun hb => ?_)
      · repeat (first | refine N.seq ?_ | refine N.blk ?_ | refine W.seq rfl ?_ | refine W.block rfl ?_ | refine W.skip rfl ?_ | refine W.ret rfl ?_ | refine N.nil ?_ | refine N.loop ?_ | refine W.exit rfl ?_ | refine X.seq ?_ | refine X.loop ?_ | refine X.hit ?_ | refine X.pass (by decide) ?_ | refine W.region tm no_specs rfl (by conv => lhs; simp) fun _ => ?_ | refine W.regionD tm no_specs rfl (by conv => lhs; simp) (by conv => lhs; simp) (by kernel_rfl) fun _ => ?_)
        rw [calm_bad hli (by simp [okL, h1])]
        exact Ret.data rfl (by conv => lhs; simp) (by conv => lhs; simp) (by rfl)
      · simp at hb
    · refine W.region tm no_specs rfl (by conv => lhs; simp [h1]) fun _ => ?_
      repeat (first | refine N.seq ?_ | refine N.blk ?_ | refine W.seq rfl ?_ | refine W.block rfl ?_ | refine W.skip rfl ?_ | refine W.ret rfl ?_ | refine N.nil ?_ | refine N.loop ?_ | refine W.exit rfl ?_ | refine X.seq ?_ | refine X.loop ?_ | refine X.hit ?_ | refine X.pass (by decide) ?_)
      refine W.cond rfl (by rfl) (fun hb => ?_) (fun hb => ?_)
      · repeat (first | refine N.seq ?_ | refine N.blk ?_ | refine W.seq rfl ?_ | refine W.block rfl ?_ | refine W.skip rfl ?_ | refine W.ret rfl ?_ | refine N.nil ?_ | refine N.loop ?_ | refine W.exit rfl ?_ | refine X.seq ?_ | refine X.loop ?_ | refine X.hit ?_ | refine X.pass (by decide) ?_ | refine W.region tm no_specs rfl (by conv => lhs; simp) fun _ => ?_ | refine W.regionD tm no_specs rfl (by conv => lhs; simp) (by conv => lhs; simp) (by kernel_rfl) fun _ => ?_)
        rw [calm_bad hli (by simp [okL] at hb ⊢; exact fun _ => hb)]
        exact Ret.data rfl (by conv => lhs; simp) (by conv => lhs; simp) (by rfl)
      · repeat (first | refine N.seq ?_ | refine N.blk ?_ | refine W.seq rfl ?_ | refine W.block rfl ?_ | refine W.skip rfl ?_ | refine W.ret rfl ?_ | refine N.nil ?_ | refine N.loop ?_ | refine W.exit rfl ?_ | refine X.seq ?_ | refine X.loop ?_ | refine X.hit ?_ | refine X.pass (by decide) ?_ | refine W.region tm no_specs rfl (by conv => lhs; simp [w64_succ hi' hlen]) fun _ => ?_ | refine W.regionD tm no_specs rfl (by conv => lhs; simp [w64_succ hi' hlen]) (by conv => lhs; simp) (by kernel_rfl) fun _ => ?_)
        refine ⟨⟨(i + 1, _), hi', ?_⟩, ?_, AS.le_of rfl (by simp [tmpsIn]) (fun _ => rfl)⟩
        · rw [calm_step hli, hok]
          simp [okL, h1] at hb ⊢
          omega
        · dsimp only; omega
  · simp only [decide_eq_false_iff_not] at hb
    repeat (first | refine N.seq ?_ | refine N.blk ?_ | refine W.seq rfl ?_ | refine W.block rfl ?_ | refine W.skip rfl ?_ | refine W.ret rfl ?_ | refine N.nil ?_ | refine N.loop ?_ | refine W.exit rfl ?_ | refine X.seq ?_ | refine X.loop ?_ | refine X.hit ?_ | refine X.pass (by decide) ?_ | refine W.region tm no_specs rfl (by conv => lhs; simp) fun _ => ?_ | refine W.regionD tm no_specs rfl (by conv => lhs; simp) (by conv => lhs; simp) (by kernel_rfl) fun _ => ?_)
    have hil : i = l.length := by omega
    rw [hil, List.take_length] at hok
    rw [show calm l = decide ((l.length : Int) ≤ 20) by simp only [calm, hok, Bool.true_and, decide_eq_decide]; omega]
    exact Ret.data rfl (by conv => lhs; simp) (by conv => lhs; simp) (by rfl)

/-! ### The two orders -/
def enc2 (p : Int × Int) : List AV := [.int .i64 p.1, .int .i64 p.2]
theorem enc2_inj {β : Type} {f : Int × Int → β} : ∀ x y, enc2 x = enc2 y → f x = f y := fun x y h => by
  simp only [enc2, List.cons.injEq, AV.int.injEq, true_and, and_true] at h
  rw [Prod.ext h.1 h.2]
noncomputable def gtS : SpecFn := mkS enc2 fun p => (.bool (decide (p.1 > p.2)), [])
theorem gtS_eq (a b : Int) : gtS [.int .i64 a, .int .i64 b] [] = some (.bool (decide (a > b)), []) := mkS_eq enc2_inj (a, b)
noncomputable def ltS : SpecFn := mkS enc2 fun p => (.bool (decide (p.1 < p.2)), [])
theorem ltS_eq (a b : Int) : ltS [.int .i64 a, .int .i64 b] [] = some (.bool (decide (a < b)), []) := mkS_eq enc2_inj (a, b)
theorem gt_ok : FnC Try.prog 12 gtS := by
  refine FnC.walk 12 (fn := Try.f12) Try.func12 rfl (by kernel_rfl) fun p => ?_
  change W _ _ _ _ ⟨8, [(0, .int .i64 p.1), (1, .int .i64 p.2)], []⟩
  repeat (first | refine N.seq ?_ | refine N.blk ?_ | refine W.seq rfl ?_ | refine W.block rfl ?_ | refine W.skip rfl ?_ | refine W.ret rfl ?_ | refine N.nil ?_ | refine N.loop ?_ | refine W.exit rfl ?_ | refine X.seq ?_ | refine X.loop ?_ | refine X.hit ?_ | refine X.pass (by decide) ?_ | refine W.region tm no_specs rfl (by conv => lhs; simp) fun _ => ?_ | refine W.regionD tm no_specs rfl (by conv => lhs; simp) (by conv => lhs; simp) (by kernel_rfl) fun _ => ?_)
  exact Ret.data rfl (by conv => lhs; simp) (by conv => lhs; simp) (by rfl)
theorem lt_ok : FnC Try.prog 13 ltS := by
  refine FnC.walk 13 (fn := Try.f13) Try.func13 rfl (by kernel_rfl) fun p => ?_
  change W _ _ _ _ ⟨8, [(0, .int .i64 p.1), (1, .int .i64 p.2)], []⟩
  repeat (first | refine N.seq ?_ | refine N.blk ?_ | refine W.seq rfl ?_ | refine W.block rfl ?_ | refine W.skip rfl ?_ | refine W.ret rfl ?_ | refine N.nil ?_ | refine N.loop ?_ | refine W.exit rfl ?_ | refine X.seq ?_ | refine X.loop ?_ | refine X.hit ?_ | refine X.pass (by decide) ?_ | refine W.region tm no_specs rfl (by conv => lhs; simp) fun _ => ?_ | refine W.regionD tm no_specs rfl (by conv => lhs; simp) (by conv => lhs; simp) (by kernel_rfl) fun _ => ?_)
  exact Ret.data rfl (by conv => lhs; simp) (by conv => lhs; simp) (by rfl)
end Go.Abs.Lp
