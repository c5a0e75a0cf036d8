/- The statement about full talks: the walk. Conditions: none. -/
import Derived.Test.YtffoafkdoclfcaaGrF
namespace Go.Abs.Gr
open Go Go.Proofs Go.Abs
set_option maxRecDepth 100000
set_option maxHeartbeats 4000000
set_option linter.unusedSimpArgs false
set_option linter.unusedVariables false
attribute [local simp] runL stepA execA_eq skipA run_ret run_fail run_get run_put run_asm num lk st lk_st putA AS.ev ofValue ofFlat mkv splice fieldAddrA buildA fillA runF gdst pickA unOpA extractA resVs resV pack frzT inlT inlV frzV frzVs frzL frz1 newId AV.cellsOf AV.flat AV.flat2 specOf loadA_runR capA copyA copyTo srcA sliceCA slice3A appendZA extA AV.place lenCA clearA clearTo expG expB3 List.zipWith renL fF handB renB AV.ren backF backL idsOf freshIds refsL refsB AV.refs List.range List.range.loop placesA sliceRows rowsOf convertA sliceArrA sliceA bndA nilCheckA arrayAtA mmA lookupA keyOf keyOK findA keyEqA foundA makeMapA mapUpdateA appendA rowsA indexA partA fieldA retE2 frqT frqV frqVs frqL frq1 reachE blkRefs outE nodupE firstE seqO expB2 expF 
/-! ### The same talks -/
theorem tg27 : Try.prog.eqGuardType Try.prog.depth 27 = false := by kernel_rfl
theorem th27 : Try.prog.stoodInHeld 27 = false := by kernel_rfl
theorem neq27 (a b c : Int) (H : NL ABlk) : (eqlA Try.prog .neq 27 (.agg [.int .u64 a, .int .u64 b, .int .i64 c]) (.agg [.int .u64 a, .int .u64 b, .int .i64 c])).run H = some ⟨.bool false, H, [], [], True⟩ := by
  simp [eqlA, tg27, eqV, Try.underlying27, Try.underlying22, Try.underlying3, th27, eqFs, partV, AP.run]
def encSm (l : Tks) : List AV := [.list 3 (l.1.map Tk.cells), .list 3 (l.1.map Tk.cells)]
theorem encSm_inj {β : Type} {f : Tks → β} : ∀ x y, encSm x = encSm y → f x = f y := fun x y h => by
  simp only [encSm, List.cons.injEq, AV.list.injEq, true_and, and_true] at h
  rw [Subtype.ext (map_inj Tk.inj h.1)]
noncomputable def sameS : SpecFn := mkS encSm fun l => (.bool true, [])
theorem sameS_eq (l : List Tk) (hl : l.length ≤ 200) : sameS [.list 3 (l.map Tk.cells), .list 3 (l.map Tk.cells)] [] = some (.bool true, []) := mkS_eq (enc := encSm) encSm_inj ⟨l, hl⟩
theorem same_ok : FnC Try.prog 10 sameS := by
  refine FnC.walk 10 (fn := Try.f10) Try.func10 rfl (by kernel_rfl) fun x => ?_
  obtain ⟨l, hl⟩ := x
  change W _ _ _ _ ⟨26, [(0, .list 3 (l.map Tk.cells)), (1, .list 3 (l.map Tk.cells))], []⟩
  repeat (first | refine N.seq ?_ | refine N.blk ?_ | refine W.seq rfl ?_ | refine W.block rfl ?_ | refine W.skip rfl ?_ | refine W.ret rfl ?_ | refine N.nil ?_ | refine N.loop ?_ | refine W.exit rfl ?_ | refine X.seq ?_ | refine X.loop ?_ | refine X.hit ?_ | refine X.pass (by decide) ?_ | refine W.condT rfl (by rfl) ?_ | refine W.condF rfl (by rfl) ?_ | refine W.region tm no_specs rfl (by conv => lhs; simp) fun _ => ?_ | refine W.regionD tm no_specs rfl (by conv => lhs; simp) (by conv => lhs; simp) (by kernel_rfl) fun _ => ?_)
  refine W.loop rfl (ι := { k : Nat // k ≤ l.length }) (fun k => ⟨26, [(0, .list 3 (l.map Tk.cells)), (1, .list 3 (l.map Tk.cells)), (5, .int .i64 k.1)], []⟩) (fun k => l.length - k.1)
    ⟨0, by omega⟩ (AS.le_of rfl ⟨rfl, rfl, rfl, trivial⟩ (fun _ => rfl)) ?_
  rintro ⟨k, hk⟩
  dsimp only
  by_cases hk2 : k = l.length
  · subst hk2
    have q : ¬ (l.length : Int) < l.length := by omega
    repeat (first | refine N.seq ?_ | refine N.blk ?_ | refine W.seq rfl ?_ | refine W.block rfl ?_ | refine W.skip rfl ?_ | refine W.ret rfl ?_ | refine N.nil ?_ | refine N.loop ?_ | refine W.exit rfl ?_ | refine X.seq ?_ | refine X.loop ?_ | refine X.hit ?_ | refine X.pass (by decide) ?_ | refine W.condT rfl (by rfl) ?_ | refine W.condF rfl (by rfl) ?_ | refine W.region tm no_specs rfl (by conv => lhs; simp [q]) fun _ => ?_ | refine W.regionD tm no_specs rfl (by conv => lhs; simp [q]) (by conv => lhs; simp) (by kernel_rfl) fun _ => ?_)
    first | exact Ret.dataR rfl (by conv => lhs; simp) (by conv => lhs; simp) (by first | rfl | simp [inlT, inlV]) | fail "no return here"
  · have hlt : k < l.length := by omega
    have q : (k : Int) < l.length := by omega
    have hw := w64_succ hlt (Nat.le_trans hl (by decide))
    repeat (first | refine N.seq ?_ | refine N.blk ?_ | refine W.seq rfl ?_ | refine W.block rfl ?_ | refine W.skip rfl ?_ | refine W.ret rfl ?_ | refine N.nil ?_ | refine N.loop ?_ | refine W.exit rfl ?_ | refine X.seq ?_ | refine X.loop ?_ | refine X.hit ?_ | refine X.pass (by decide) ?_ | refine W.condT rfl (by rfl) ?_ | refine W.condF rfl (by rfl) ?_ | refine W.region tm no_specs rfl (by conv => lhs; simp [q, hlt, Tk.cells, hw, neq27]) fun _ => ?_ | refine W.regionD tm no_specs rfl (by conv => lhs; simp [q, hlt, Tk.cells, hw, neq27]) (by conv => lhs; simp) (by kernel_rfl) fun _ => ?_)
    exact ⟨⟨k + 1, by omega⟩, by dsimp only; omega, AS.le_of rfl ⟨rfl, rfl, rfl, trivial⟩ (fun _ => rfl)⟩
/-! ### Modulo -/
def encMd (x : { x : Int × Int // 0 < x.2 ∧ x.2 ≤ 4294967296 }) : List AV := [.int .i64 x.1.1, .int .i64 x.1.2]
theorem encMd_inj {β : Type} {f : { x : Int × Int // 0 < x.2 ∧ x.2 ≤ 4294967296 } → β} : ∀ x y, encMd x = encMd y → f x = f y := fun x y h => by
  simp only [encMd, List.cons.injEq, AV.int.injEq, true_and, and_true] at h
  rw [Subtype.ext (Prod.ext h.1 h.2)]
noncomputable def modS : SpecFn := mkS encMd fun x => (.int .i64 (x.1.1 % x.1.2), [])
theorem modS_eq (x m : Int) (h0 : 0 < m) (h1 : m ≤ 4294967296) : modS [.int .i64 x, .int .i64 m] [] = some (.int .i64 (x % m), []) := mkS_eq (enc := encMd) encMd_inj ⟨(x, m), h0, h1⟩
theorem tmod_neg {x m : Int} (h0 : 0 < m) (h : x.tmod m < 0) : x.tmod m + m = x % m := by
  rw [Int.emod_eq_tmod]
  have hx : ¬ 0 ≤ x := fun hx => by have := Int.tmod_nonneg m hx; omega
  have hd : ¬ m ∣ x := fun hd => by rw [Int.tmod_eq_zero_of_dvd hd] at h; omega
  rw [if_neg (by simp [hx, hd])]
  omega
theorem tmod_pos {x m : Int} (h0 : 0 < m) (h : ¬ x.tmod m < 0) : x.tmod m = x % m := by
  rw [Int.emod_eq_tmod]
  by_cases hx : 0 ≤ x
  · simp [hx]
  · by_cases hd : m ∣ x
    · simp [hd]
    · exfalso
      have h1 : 0 ≤ (-x).tmod m := Int.tmod_nonneg m (by omega)
      rw [Int.neg_tmod] at h1
      have h2 : x.tmod m ≠ 0 := fun e => hd (Int.dvd_of_tmod_eq_zero e)
      omega
theorem mod_ok : FnC Try.prog 9 modS := by
  refine FnC.walk 9 (fn := Try.f9) Try.func9 rfl (by kernel_rfl) fun x => ?_
  obtain ⟨⟨x, m⟩, h0, h1⟩ := x
  change W _ _ _ _ ⟨15, [(0, .int .i64 x), (1, .int .i64 m)], []⟩
  dsimp only at h0 h1
  have hm : m ≠ 0 := by omega
  by_cases h : x.tmod m < 0
  · have e := tmod_neg h0 h
    have hw : IntKind.i64.wrap (x.tmod m + m) = x % m := by
      rw [e]
      have := Int.emod_nonneg x hm
      have := Int.emod_lt_of_pos x h0
      exact w64 (by omega) (by omega)
    repeat (first | refine N.seq ?_ | refine N.blk ?_ | refine W.seq rfl ?_ | refine W.block rfl ?_ | refine W.skip rfl ?_ | refine W.ret rfl ?_ | refine N.nil ?_ | refine N.loop ?_ | refine W.exit rfl ?_ | refine X.seq ?_ | refine X.loop ?_ | refine X.hit ?_ | refine X.pass (by decide) ?_ | refine W.condT rfl (by rfl) ?_ | refine W.condF rfl (by rfl) ?_ | refine W.region tm no_specs rfl (by conv => lhs; simp [hm, h, hw]) fun _ => ?_ | refine W.regionD tm no_specs rfl (by conv => lhs; simp [hm, h, hw]) (by conv => lhs; simp) (by kernel_rfl) fun _ => ?_)
    first | exact Ret.dataR rfl (by conv => lhs; simp) (by conv => lhs; simp) (by first | rfl | simp [inlT, inlV]) | fail "no return here"
  · have e := tmod_pos h0 h
    repeat (first | refine N.seq ?_ | refine N.blk ?_ | refine W.seq rfl ?_ | refine W.block rfl ?_ | refine W.skip rfl ?_ | refine W.ret rfl ?_ | refine N.nil ?_ | refine N.loop ?_ | refine W.exit rfl ?_ | refine X.seq ?_ | refine X.loop ?_ | refine X.hit ?_ | refine X.pass (by decide) ?_ | refine W.condT rfl (by rfl) ?_ | refine W.condF rfl (by rfl) ?_ | refine W.region tm no_specs rfl (by conv => lhs; simp [hm, h]) fun _ => ?_ | refine W.regionD tm no_specs rfl (by conv => lhs; simp [hm, h]) (by conv => lhs; simp) (by kernel_rfl) fun _ => ?_)
    simp only [e]
    first | exact Ret.dataR rfl (by conv => lhs; simp) (by conv => lhs; simp) (by first | rfl | simp [inlT, inlV]) | fail "no return here"
end Go.Abs.Gr
