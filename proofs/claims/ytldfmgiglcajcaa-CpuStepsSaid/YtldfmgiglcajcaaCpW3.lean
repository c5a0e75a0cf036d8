/- Whether a program may be kept: some answer. Conditions: none. -/
import Derived.Test.YtldfmgiglcajcaaCpW2
namespace Go.Abs.Cp
open Go Go.Proofs Go.Abs
set_option maxRecDepth 100000
set_option maxHeartbeats 4000000
set_option linter.unusedSimpArgs false
set_option linter.unusedVariables false
def strC (s : ByteArray) : List AV := [.str s]
theorem strC_inj (a b : ByteArray) (h : strC a = strC b) : a = b := by
  simp only [strC, List.cons.injEq, AV.str.injEq, and_true] at h
  exact h
structure PrgK where
  code : List Ins
  strs : List ByteArray
  pages : Int
def PrgK.cells (p : PrgK) : List AV := [.list 4 (p.code.map Ins.cells), .list 1 (p.strs.map strC), .int .i64 p.pages]
def encKP (p : PrgK) : List AV := [.agg p.cells]
theorem encKP_inj : ∀ x y, encKP x = encKP y → x = y := fun x y h => by
  cases x; cases y
  simp only [encKP, PrgK.cells, List.cons.injEq, AV.agg.injEq, AV.list.injEq, AV.int.injEq, true_and, and_true] at h
  obtain ⟨h1, h2, rfl⟩ := h
  rw [map_inj Ins.inj h1, map_inj strC_inj h2]
def KeepP (_ : PrgK) (r : AV × List ABlk) : Prop := ∃ b, r = (.bool b, [])
attribute [local simp] runL stepA execA_eq skipA run_ret run_fail run_get run_put run_asm num lk st lk_st putA AS.ev ofValue ofFlat mkv splice fieldAddrA buildA fillA runF gdst pickA unOpA extractA resVs resV pack frzT inlT inlV frzV frzVs frzL frz1 newId AV.cellsOf AV.flat AV.flat2 specOf loadA_runR renL fF handB renB AV.ren backF backL idsOf freshIds refsL refsB AV.refs List.range List.range.loop placesA sliceRows rowsOf convertA sliceArrA sliceA bndA nilCheckA arrayAtA mmA lookupA keyOf keyOK findA keyEqA foundA makeMapA mapUpdateA appendA rowsA indexA partA fieldA retE2 frqT frqV frqVs frqL frq1 reachE blkRefs outE nodupE firstE seqO expB2 expF PrgK.cells
theorem keep_ok : ∃ S, FnC Try.prog 9 S ∧ ∀ x, ∃ r, S (encKP x) [] = some r ∧ KeepP x r := by
  refine FnC.existsA 9 (fn := Try.f9) Try.func9 rfl (by kernel_rfl) encKP_inj (fun x => ⟨_, true, rfl⟩) fun p => ?_
  obtain ⟨code, strs, pages⟩ := p
  change W _ (fun σ => ∃ r, KeepP ⟨code, strs, pages⟩ r ∧ Ret _ _ r.1 r.2 σ) _ _ ⟨26, [(0, .agg (PrgK.cells ⟨code, strs, pages⟩))], []⟩
  repeat (first | refine N.seq ?_ | refine N.blk ?_ | refine W.seq rfl ?_ | refine W.block rfl ?_ | refine W.skip rfl ?_ | refine W.ret rfl ?_ | refine N.nil ?_ | refine N.loop ?_ | refine W.exit rfl ?_ | refine X.seq ?_ | refine X.loop ?_ | refine X.hit ?_ | refine X.pass (by decide) ?_)
  refine W.region tm no_specs rfl (by conv => lhs; simp) fun _ => ?_
  repeat (first | refine N.seq ?_ | refine N.blk ?_ | refine W.seq rfl ?_ | refine W.block rfl ?_ | refine W.skip rfl ?_ | refine W.ret rfl ?_ | refine N.nil ?_ | refine N.loop ?_ | refine W.exit rfl ?_ | refine X.seq ?_ | refine X.loop ?_ | refine X.hit ?_ | refine X.pass (by decide) ?_)
  refine W.region tm no_specs rfl (by conv => lhs; simp) fun hA => ?_
  have hl : strs.length ≤ maxLen := by simpa using hA
  repeat (first | refine N.seq ?_ | refine N.blk ?_ | refine W.seq rfl ?_ | refine W.block rfl ?_ | refine W.skip rfl ?_ | refine W.ret rfl ?_ | refine N.nil ?_ | refine N.loop ?_ | refine W.exit rfl ?_ | refine X.seq ?_ | refine X.loop ?_ | refine X.hit ?_ | refine X.pass (by decide) ?_)
  refine W.loop rfl (ι := { k : Nat // k ≤ strs.length }) (fun k => ⟨26, [(1, .ptr 32 1 0 0), (2, .bool false), (6, .list 1 (strs.map strC)), (7, .int .i64 strs.length), (8, .int .i64 k.1)], [(32, { gen := 1, kind := 2, elem := 28, size := 3, inl := false, rows := [PrgK.cells ⟨code, strs, pages⟩] })]⟩) (fun k => strs.length - k.1)
    ⟨0, by omega⟩ (AS.le_of rfl ⟨rfl, rfl, rfl, rfl, rfl, trivial⟩ (fun _ => rfl)) ?_
  rintro ⟨k, hk⟩
  dsimp only
  by_cases hk2 : k = strs.length
  · subst hk2
    have q : ¬ (strs.length : Int) < strs.length := by omega
    repeat (first | refine N.seq ?_ | refine N.blk ?_ | refine W.seq rfl ?_ | refine W.block rfl ?_ | refine W.skip rfl ?_ | refine W.ret rfl ?_ | refine N.nil ?_ | refine N.loop ?_ | refine W.exit rfl ?_ | refine X.seq ?_ | refine X.loop ?_ | refine X.hit ?_ | refine X.pass (by decide) ?_ | refine W.condT rfl (by rfl) ?_ | refine W.condF rfl (by rfl) ?_ | refine W.region tm no_specs rfl (by conv => lhs; simp [q]) fun _ => ?_ | refine W.regionD tm no_specs rfl (by conv => lhs; simp [q]) (by conv => lhs; simp) (by kernel_rfl) fun _ => ?_)
    rcases Bool.eq_false_or_eq_true (decide ((code.length : Int) ≤ 300)) with h1 | h1
    · repeat (first | refine N.seq ?_ | refine N.blk ?_ | refine W.seq rfl ?_ | refine W.block rfl ?_ | refine W.skip rfl ?_ | refine W.ret rfl ?_ | refine N.nil ?_ | refine N.loop ?_ | refine W.exit rfl ?_ | refine X.seq ?_ | refine X.loop ?_ | refine X.hit ?_ | refine X.pass (by decide) ?_ | refine W.condT rfl (by rfl) ?_ | refine W.condF rfl (by rfl) ?_ | refine W.region tm no_specs rfl (by conv => lhs; simp [h1]) fun _ => ?_ | refine W.regionD tm no_specs rfl (by conv => lhs; simp [h1]) (by conv => lhs; simp) (by kernel_rfl) fun _ => ?_)
      exact ⟨_, ⟨_, rfl⟩, Ret.dataR rfl (by conv => lhs; simp) (by conv => lhs; simp) (by first | rfl | simp [inlT, inlV])⟩
    · repeat (first | refine N.seq ?_ | refine N.blk ?_ | refine W.seq rfl ?_ | refine W.block rfl ?_ | refine W.skip rfl ?_ | refine W.ret rfl ?_ | refine N.nil ?_ | refine N.loop ?_ | refine W.exit rfl ?_ | refine X.seq ?_ | refine X.loop ?_ | refine X.hit ?_ | refine X.pass (by decide) ?_ | refine W.condT rfl (by rfl) ?_ | refine W.condF rfl (by rfl) ?_ | refine W.region tm no_specs rfl (by conv => lhs; simp [h1]) fun _ => ?_ | refine W.regionD tm no_specs rfl (by conv => lhs; simp [h1]) (by conv => lhs; simp) (by kernel_rfl) fun _ => ?_)
      exact ⟨_, ⟨_, rfl⟩, Ret.dataR rfl (by conv => lhs; simp) (by conv => lhs; simp) (by first | rfl | simp [inlT, inlV])⟩
  · have hlt : k < strs.length := by omega
    have q : (k : Int) < strs.length := by omega
    have q2 : ¬ strs.length ≤ k := by omega
    obtain ⟨s, hs⟩ := get_lt hlt
    have hw := w64_succ hlt hl
    repeat (first | refine N.seq ?_ | refine N.blk ?_ | refine W.seq rfl ?_ | refine W.block rfl ?_ | refine W.skip rfl ?_ | refine W.ret rfl ?_ | refine N.nil ?_ | refine N.loop ?_ | refine W.exit rfl ?_ | refine X.seq ?_ | refine X.loop ?_ | refine X.hit ?_ | refine X.pass (by decide) ?_ | refine W.condT rfl (by rfl) ?_ | refine W.condF rfl (by rfl) ?_ | refine W.region tm no_specs rfl (by conv => lhs; simp [q2, hs, strC, q]) fun _ => ?_ | refine W.regionD tm no_specs rfl (by conv => lhs; simp [q2, hs, strC, q]) (by conv => lhs; simp) (by kernel_rfl) fun _ => ?_)
    refine W.cond rfl (by rfl) (fun hb => ?_) (fun hb => ?_)
    · repeat (first | refine N.seq ?_ | refine N.blk ?_ | refine W.seq rfl ?_ | refine W.block rfl ?_ | refine W.skip rfl ?_ | refine W.ret rfl ?_ | refine N.nil ?_ | refine N.loop ?_ | refine W.exit rfl ?_ | refine X.seq ?_ | refine X.loop ?_ | refine X.hit ?_ | refine X.pass (by decide) ?_ | refine W.condT rfl (by rfl) ?_ | refine W.condF rfl (by rfl) ?_ | refine W.region tm no_specs rfl (by conv => lhs; simp [q2, hs, strC]) fun _ => ?_ | refine W.regionD tm no_specs rfl (by conv => lhs; simp [q2, hs, strC]) (by conv => lhs; simp) (by kernel_rfl) fun _ => ?_)
      exact ⟨_, ⟨_, rfl⟩, Ret.dataR rfl (by conv => lhs; simp) (by conv => lhs; simp) (by first | rfl | simp [inlT, inlV])⟩
    · repeat (first | refine N.seq ?_ | refine N.blk ?_ | refine W.seq rfl ?_ | refine W.block rfl ?_ | refine W.skip rfl ?_ | refine W.ret rfl ?_ | refine N.nil ?_ | refine N.loop ?_ | refine W.exit rfl ?_ | refine X.seq ?_ | refine X.loop ?_ | refine X.hit ?_ | refine X.pass (by decide) ?_ | refine W.condT rfl (by rfl) ?_ | refine W.condF rfl (by rfl) ?_ | refine W.region tm no_specs rfl (by conv => lhs; simp [q2, hs, strC, hw]) fun _ => ?_ | refine W.regionD tm no_specs rfl (by conv => lhs; simp [q2, hs, strC, hw]) (by conv => lhs; simp) (by kernel_rfl) fun _ => ?_)
      refine ⟨⟨k + 1, by omega⟩, by dsimp only; omega, AS.le_of rfl (by simp [tmpsIn]) (fun _ => rfl)⟩
end Go.Abs.Cp
