/- What dice give. Conditions: none. -/
import Derived.Test.YtldfmgiglcajcaaCpI
namespace Go.Abs.Cp
open Go Go.Proofs Go.Abs
set_option maxRecDepth 100000
set_option maxHeartbeats 4000000
set_option linter.unusedSimpArgs false
set_option linter.unusedVariables false
/-! ### Dice -/
def byte (b : UInt8) : List AV := [.int .u8 b.toNat]
theorem byte_inj (a b : UInt8) (h : byte a = byte b) : a = b := by
  simp only [byte, List.cons.injEq, AV.int.injEq, true_and, and_true] at h
  exact UInt8.toNat_inj.1 (by omega)
def diceB (l : List UInt8) : ABlk := { gen := 0, kind := 2, elem := 56, size := 1, rows := [[.list 1 (l.map byte)]] }
theorem diceB_inj {a b : List UInt8} (h : diceB a = diceB b) : a = b := by
  simp only [diceB, ABlk.mk.injEq, List.cons.injEq, AV.list.injEq, true_and, and_true] at h
  exact map_inj byte_inj h
def dn (l : List UInt8) (n : Int) : Int := match l with
  | [] => 0
  | b :: _ => if n ≤ 1 then 0 else (b.toNat : Int).tmod n
def dl (l : List UInt8) (n : Int) : List UInt8 := match l with
  | [] => []
  | b :: r => if n ≤ 1 then b :: r else r
theorem dn_nonneg (l : List UInt8) (n : Int) : 0 ≤ dn l n := by
  unfold dn
  split
  · omega
  · split
    · omega
    · exact Int.tmod_nonneg _ (by omega)
theorem dn_lt (l : List UInt8) {n : Int} (h : 0 < n) : dn l n < n := by
  unfold dn
  split
  · exact h
  · split
    · omega
    · exact Int.tmod_lt_of_pos _ h
def encD (x : List UInt8 × Int) : List AV × List ABlk := ([.ptr 0 0 0 0, .int .i64 x.2], [diceB x.1])
noncomputable def diceS : SpecFn := mkS2 encD fun x => (.int .i64 (dn x.1 x.2), [diceB (dl x.1 x.2)])
theorem diceS_eq (l : List UInt8) (n : Int) : diceS [.ptr 0 0 0 0, .int .i64 n] [diceB l] = some (.int .i64 (dn l n), [diceB (dl l n)]) :=
  mkS2_eq (enc := encD) (fun x y h => by
    simp only [encD, Prod.mk.injEq, List.cons.injEq, AV.int.injEq, true_and, and_true] at h
    rw [Prod.ext (diceB_inj h.2) h.1]) (l, n)
theorem ts29 : szOf Try.prog 29 = some 1 := by kernel_rfl
theorem ta29 : aggT Try.prog 29 = some false := by kernel_rfl
theorem ts5 : szOf Try.prog 5 = some 1 := by kernel_rfl
theorem ta5 : aggT Try.prog 5 = some false := by kernel_rfl
attribute [local simp] runL stepA execA_eq skipA run_ret run_fail run_get run_put run_asm num lk st lk_st putA AS.ev ofValue ofFlat mkv splice fieldAddrA buildA fillA runF gdst pickA unOpA extractA resVs resV pack frzT inlT inlV frzV frzVs frzL frz1 newId AV.cellsOf AV.flat AV.flat2 specOf loadA_runR renL fF handB renB AV.ren backF backL idsOf freshIds refsL refsB AV.refs List.range List.range.loop placesA sliceRows rowsOf convertA sliceArrA sliceA bndA nilCheckA arrayAtA mmA lookupA keyOf keyOK findA keyEqA foundA makeMapA mapUpdateA appendA rowsA indexA partA fieldA retE2 frqT frqV frqVs frqL frq1 reachE blkRefs outE nodupE firstE seqO expB2 expF ts29 ta29 ts5 ta5 ts3 ta3 convertA sliceArrA sliceA bndA nilCheckA
theorem dice_ok : FnC Try.prog 25 diceS := by
  refine FnC.walkB 25 (fn := Try.f25) Try.func25 rfl (by kernel_rfl) (fun x b hb => by simp [encD] at hb; rw [hb]; rfl) fun x => ?_
  obtain ⟨l, n⟩ := x
  change W _ (RetB _ _ 1 _ _) _ _ ⟨34, [(0, .ptr 0 0 0 0), (1, .int .i64 n)], [(0, diceB l)]⟩
  cases l with
  | nil =>
    repeat (first | refine N.seq ?_ | refine N.blk ?_ | refine W.seq rfl ?_ | refine W.block rfl ?_ | refine W.skip rfl ?_ | refine W.ret rfl ?_ | refine N.nil ?_ | refine N.loop ?_ | refine W.exit rfl ?_ | refine X.seq ?_ | refine X.loop ?_ | refine X.hit ?_ | refine X.pass (by decide) ?_ | refine W.condT rfl (by rfl) ?_ | refine W.condF rfl (by rfl) ?_ | refine W.region tm no_specs rfl (by conv => lhs; simp [diceB]) fun _ => ?_ | refine W.regionD tm no_specs rfl (by conv => lhs; simp [diceB]) (by conv => lhs; simp) (by kernel_rfl) fun _ => ?_)
    simp only [dn, dl, diceB, List.map_nil]
    first | exact retE2_ok false (by conv => lhs; simp [retE2, frqT, frqV, frqVs, frqL, frq1, reachE, blkRefs, outE, nodupE, firstE, seqO, expB2, expF, refsB, refsL, AV.refs, AV.ren, renL, renB, List.range, List.range.loop, resVs, resV, pack]) | fail "no return here"
  | cons b r =>
    have hne : (((r.length : Nat) : Int) + 1 == 0) = false := by simp; omega
    by_cases h : n ≤ 1
    · repeat (first | refine N.seq ?_ | refine N.blk ?_ | refine W.seq rfl ?_ | refine W.block rfl ?_ | refine W.skip rfl ?_ | refine W.ret rfl ?_ | refine N.nil ?_ | refine N.loop ?_ | refine W.exit rfl ?_ | refine X.seq ?_ | refine X.loop ?_ | refine X.hit ?_ | refine X.pass (by decide) ?_ | refine W.condT rfl (by rfl) ?_ | refine W.condF rfl (by rfl) ?_ | refine W.region tm no_specs rfl (by conv => lhs; simp [diceB, h, hne]) fun _ => ?_ | refine W.regionD tm no_specs rfl (by conv => lhs; simp [diceB, h, hne]) (by conv => lhs; simp) (by kernel_rfl) fun _ => ?_)
      simp only [dn, dl, diceB, if_pos h, List.map_cons]
      first | exact retE2_ok false (by conv => lhs; simp [retE2, frqT, frqV, frqVs, frqL, frq1, reachE, blkRefs, outE, nodupE, firstE, seqO, expB2, expF, refsB, refsL, AV.refs, AV.ren, renL, renB, List.range, List.range.loop, resVs, resV, pack]) | fail "no return here"
    · have wb : IntKind.i64.wrap (b.toNat : Int) = b.toNat := w64 (by omega) (by have := b.toNat_lt; omega)
      have h0 : ¬ n = 0 := by omega
      have ht : List.take r.length (r.map byte) = r.map byte := List.take_of_length_le (by simp)
      repeat (first | refine N.seq ?_ | refine N.blk ?_ | refine W.seq rfl ?_ | refine W.block rfl ?_ | refine W.skip rfl ?_ | refine W.ret rfl ?_ | refine N.nil ?_ | refine N.loop ?_ | refine W.exit rfl ?_ | refine X.seq ?_ | refine X.loop ?_ | refine X.hit ?_ | refine X.pass (by decide) ?_ | refine W.condT rfl (by rfl) ?_ | refine W.condF rfl (by rfl) ?_ | refine W.region tm no_specs rfl (by conv => lhs; simp [diceB, h, hne, byte, wb, h0, ht]) fun _ => ?_ | refine W.regionD tm no_specs rfl (by conv => lhs; simp [diceB, h, hne, byte, wb, h0, ht]) (by conv => lhs; simp) (by kernel_rfl) fun _ => ?_)
      simp only [dn, dl, diceB, if_neg h, List.map_cons]
      first | exact retE2_ok false (by conv => lhs; simp [retE2, frqT, frqV, frqVs, frqL, frq1, reachE, blkRefs, outE, nodupE, firstE, seqO, expB2, expF, refsB, refsL, AV.refs, AV.ren, renL, renB, List.range, List.range.loop, resVs, resV, pack]) | fail "no return here"
end Go.Abs.Cp
