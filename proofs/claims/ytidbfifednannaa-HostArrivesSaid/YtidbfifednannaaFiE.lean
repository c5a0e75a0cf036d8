/- Decks of numbers. Conditions: none. -/
import Derived.Test.YtidbfifednannaaFiA
namespace Go.Abs.Fi
open Go Go.Proofs Go.Abs
set_option maxRecDepth 100000
set_option maxHeartbeats 4000000
set_option linter.unusedSimpArgs false
set_option linter.unusedVariables false
theorem map_inj {α : Type} {f : α → List AV} (hf : ∀ x y, f x = f y → x = y) {l m : List α} (h : l.map f = m.map f) : l = m :=
  (List.map_inj_right (fun a b h => hf a b h)).1 h
theorem take_len_map {α β : Type} (f : α → β) (l : List α) : (l.map f).take l.length = l.map f := List.take_of_length_le (by simp)
attribute [local simp] runL stepA execA_eq skipA run_ret run_fail run_get run_put run_asm num lk st lk_st putA AS.ev ofValue ofFlat mkv splice fieldAddrA buildA fillA runF gdst pickA unOpA extractA resVs resV pack frzT inlT inlV frzV frzVs frzL frz1 newId AV.cellsOf AV.flat AV.flat2 specOf loadA_runR capA copyA copyTo srcA sliceCA slice3A appendZA extA AV.place lenCA clearA clearTo expG expB3 List.zipWith renL fF handB renB AV.ren backF backL idsOf freshIds refsL refsB AV.refs List.range List.range.loop placesA sliceRows rowsOf convertA sliceArrA sliceA bndA nilCheckA arrayAtA mmA lookupA keyOf keyOK findA keyEqA foundA makeMapA mapUpdateA appendA rowsA indexA partA fieldA retE2 frqT frqV frqVs frqL frq1 reachE blkRefs outE nodupE firstE seqO expB2 expF take_len_map
/-! ### Modulo -/
def encMd (x : { x : Int × Int // 0 < x.2 ∧ x.2 ≤ 4294967296 }) : List AV := [.int .i64 x.1.1, .int .i64 x.1.2]
theorem encMd_inj {β : Type} {f : { x : Int × Int // 0 < x.2 ∧ x.2 ≤ 4294967296 } → β} : ∀ x y, encMd x = encMd y → f x = f y := fun x y h => by
  simp only [encMd, List.cons.injEq, AV.int.injEq, true_and, and_true] at h
  rw [Subtype.ext (Prod.ext h.1 h.2)]
noncomputable def modS : SpecFn := mkS encMd fun x => (.int .i64 (x.1.1 % x.1.2), [])
theorem modS_eq (x m : Int) (h0 : 0 < m) (h1 : m ≤ 4294967296) : modS [.int .i64 x, .int .i64 m] [] = some (.int .i64 (x % m), []) := mkS_eq (enc := encMd) encMd_inj ⟨(x, m), h0, h1⟩
theorem tmod_neg {x m : Int} (h0 : 0 < m) (h : x.tmod m < 0) : x.tmod m + m = x % m := by
  rw [Int.emod_eq_tmod]
  have hx : ¬ 0 ≤ x := fun hx => by have := Int.tmod_nonneg m hx; omega
  have hd : ¬ m ∣ x := fun hd => by rw [Int.tmod_eq_zero_of_dvd hd] at h; omega
  rw [if_neg (by simp [hx, hd])]
  omega
theorem tmod_pos {x m : Int} (h0 : 0 < m) (h : ¬ x.tmod m < 0) : x.tmod m = x % m := by
  rw [Int.emod_eq_tmod]
  by_cases hx : 0 ≤ x
  · simp [hx]
  · by_cases hd : m ∣ x
    · simp [hd]
    · exfalso
      have h1 : 0 ≤ (-x).tmod m := Int.tmod_nonneg m (by omega)
      rw [Int.neg_tmod] at h1
      have h2 : x.tmod m ≠ 0 := fun e => hd (Int.dvd_of_tmod_eq_zero e)
      omega
theorem mod_ok : FnC Try.prog 67 modS := by
  refine FnC.walk 67 (fn := Try.f67) Try.func67 rfl (by kernel_rfl) fun x => ?_
  obtain ⟨⟨x, m⟩, h0, h1⟩ := x
  change W _ _ _ _ ⟨15, [(0, .int .i64 x), (1, .int .i64 m)], []⟩
  dsimp only at h0 h1
  have hm : m ≠ 0 := by omega
  by_cases h : x.tmod m < 0
  · have e := tmod_neg h0 h
    have hw : IntKind.i64.wrap (x.tmod m + m) = x % m := by
      rw [e]
      have := Int.emod_nonneg x hm
      have := Int.emod_lt_of_pos x h0
      exact w64 (by omega) (by omega)
    repeat (first | refine N.seq ?_ | refine N.blk ?_ | refine W.seq rfl ?_ | refine W.block rfl ?_ | refine W.skip rfl ?_ | refine W.ret rfl ?_ | refine N.nil ?_ | refine N.loop ?_ | refine W.exit rfl ?_ | refine X.seq ?_ | refine X.loop ?_ | refine X.hit ?_ | refine X.pass (by decide) ?_ | refine W.condT rfl (by rfl) ?_ | refine W.condF rfl (by rfl) ?_ | refine W.region tm no_specs rfl (by conv => lhs; simp [hm, h, hw]) fun _ => ?_ | refine W.regionD tm no_specs rfl (by conv => lhs; simp [hm, h, hw]) (by conv => lhs; simp) (by kernel_rfl) fun _ => ?_)
    first | exact Ret.dataR rfl (by conv => lhs; simp) (by conv => lhs; simp) (by first | rfl | simp [inlT, inlV]) | fail "no return here"
  · have e := tmod_pos h0 h
    repeat (first | refine N.seq ?_ | refine N.blk ?_ | refine W.seq rfl ?_ | refine W.block rfl ?_ | refine W.skip rfl ?_ | refine W.ret rfl ?_ | refine N.nil ?_ | refine N.loop ?_ | refine W.exit rfl ?_ | refine X.seq ?_ | refine X.loop ?_ | refine X.hit ?_ | refine X.pass (by decide) ?_ | refine W.condT rfl (by rfl) ?_ | refine W.condF rfl (by rfl) ?_ | refine W.region tm no_specs rfl (by conv => lhs; simp [hm, h]) fun _ => ?_ | refine W.regionD tm no_specs rfl (by conv => lhs; simp [hm, h]) (by conv => lhs; simp) (by kernel_rfl) fun _ => ?_)
    simp only [e]
    first | exact Ret.dataR rfl (by conv => lhs; simp) (by conv => lhs; simp) (by first | rfl | simp [inlT, inlV]) | fail "no return here"
def ic (n : Int) : List AV := [.int .i64 n]
theorem ic_inj (x y : Int) (h : ic x = ic y) : x = y := by simpa [ic] using h
attribute [local simp] runL stepA execA_eq skipA run_ret run_fail run_get run_put run_asm num lk st lk_st putA AS.ev ofValue ofFlat mkv splice fieldAddrA buildA fillA runF gdst pickA unOpA extractA resVs resV pack frzT inlT inlV frzV frzVs frzL frz1 newId AV.cellsOf AV.flat AV.flat2 specOf loadA_runR capA copyA copyTo srcA sliceCA slice3A appendZA extA AV.place lenCA clearA clearTo expG expB3 List.zipWith renL fF handB renB AV.ren backF backL idsOf freshIds refsL refsB AV.refs List.range List.range.loop placesA sliceRows rowsOf convertA sliceArrA sliceA bndA nilCheckA arrayAtA mmA lookupA keyOf keyOK findA keyEqA foundA makeMapA mapUpdateA appendA rowsA indexA partA fieldA retE2 frqT frqV frqVs frqL frq1 reachE blkRefs outE nodupE firstE seqO expB2 expF take_len_map List.findIdx?_cons List.findIdx?_nil
def dkB (L : List Int) (k : Nat) : ABlk := { gen := 0, kind := 2, elem := 137, size := 2, inl := false, rows := [[.list 1 (L.map ic), .int .i64 (k : Nat)]] }
theorem dkB_inj {L L' : List Int} {k k' : Nat} (h : dkB L k = dkB L' k') : L = L' ∧ k = k' := by
  simp only [dkB, ABlk.mk.injEq, List.cons.injEq, AV.list.injEq, AV.int.injEq, true_and, and_true, Int.natCast_inj] at h
  exact ⟨map_inj ic_inj h.1, h.2⟩
def encN (L : List Int) : List AV × List ABlk := ([.list 1 (L.map ic)], [])
theorem encN_inj {β : Type} {f : List Int → β} : ∀ x y, encN x = encN y → f x = f y := fun x y h => by
  simp only [encN, Prod.mk.injEq, List.cons.injEq, AV.list.injEq, true_and, and_true] at h
  rw [map_inj ic_inj h]
noncomputable def newS : SpecFn := mkS2 encN fun L => (.ptr 0 0 0 0, [dkB L 0])
theorem newS_eq (L : List Int) : newS [.list 1 (L.map ic)] [] = some (.ptr 0 0 0 0, [{ gen := 0, kind := 2, elem := 137, size := 2, inl := false, rows := [[.list 1 (L.map ic), .int .i64 0]] }]) := mkS2_eq (enc := encN) encN_inj L
theorem new_ok : FnC Try.prog 21 newS := by
  refine FnC.walkB 21 (fn := Try.f21) Try.func21 rfl (by kernel_rfl) (fun x b hb => by simp [encN] at hb) fun L => ?_
  change W _ (RetB _ _ 0 _ _) _ _ ⟨6, [(0, .list 1 (L.map ic))], []⟩
  repeat (first | refine N.seq ?_ | refine N.blk ?_ | refine W.seq rfl ?_ | refine W.block rfl ?_ | refine W.skip rfl ?_ | refine W.ret rfl ?_ | refine N.nil ?_ | refine N.loop ?_ | refine W.exit rfl ?_ | refine X.seq ?_ | refine X.loop ?_ | refine X.hit ?_ | refine X.pass (by decide) ?_ | refine W.condT rfl (by rfl) ?_ | refine W.condF rfl (by rfl) ?_ | refine W.region tm no_specs rfl (by conv => lhs; simp) fun _ => ?_ | refine W.regionD tm no_specs rfl (by conv => lhs; simp) (by conv => lhs; simp) (by kernel_rfl) fun _ => ?_)
  simp only [dkB, Int.ofNat_zero, Int.natCast_zero]
  first | exact retE2_ok false (by conv => lhs; simp [retE2, frqT, frqV, frqVs, frqL, frq1, reachE, blkRefs, outE, nodupE, firstE, seqO, expB2, expF, refsB, refsL, AV.refs, AV.ren, renL, renB, List.range, List.range.loop, resVs, resV, pack]) | fail "no return here"
def encLf (x : List Int × Nat) : List AV × List ABlk := ([.ptr 0 0 0 0], [dkB x.1 x.2])
theorem encLf_inj {β : Type} {f : List Int × Nat → β} : ∀ x y, encLf x = encLf y → f x = f y := fun x y h => by
  simp only [encLf, Prod.mk.injEq, List.cons.injEq, true_and, and_true] at h
  obtain ⟨h1, h2⟩ := dkB_inj h
  rw [Prod.ext h1 h2]
noncomputable def leftS : SpecFn := mkS2 encLf fun x => (.bool (decide (x.2 < x.1.length)), [dkB x.1 x.2])
theorem leftS_eq (L : List Int) (k : Nat) : leftS [.ptr 0 0 0 0] [{ gen := 0, kind := 2, elem := 137, size := 2, inl := false, rows := [[.list 1 (L.map ic), .int .i64 (k : Nat)]] }] = some (.bool (decide (k < L.length)), [{ gen := 0, kind := 2, elem := 137, size := 2, inl := false, rows := [[.list 1 (L.map ic), .int .i64 (k : Nat)]] }]) := mkS2_eq (enc := encLf) encLf_inj (L, k)
theorem left_ok : FnC Try.prog 66 leftS := by
  refine FnC.walkB 66 (fn := Try.f66) Try.func66 rfl (by kernel_rfl) (fun x b hb => by simp [encLf] at hb; rw [hb]; rfl) fun x => ?_
  obtain ⟨L, k⟩ := x
  change W _ (RetB _ _ 1 _ _) _ _ ⟨13, [(0, .ptr 0 0 0 0)], [(0, dkB L k)]⟩
  repeat (first | refine N.seq ?_ | refine N.blk ?_ | refine W.seq rfl ?_ | refine W.block rfl ?_ | refine W.skip rfl ?_ | refine W.ret rfl ?_ | refine N.nil ?_ | refine N.loop ?_ | refine W.exit rfl ?_ | refine X.seq ?_ | refine X.loop ?_ | refine X.hit ?_ | refine X.pass (by decide) ?_ | refine W.condT rfl (by rfl) ?_ | refine W.condF rfl (by rfl) ?_ | refine W.region tm no_specs rfl (by conv => lhs; simp [dkB]) fun _ => ?_ | refine W.regionD tm no_specs rfl (by conv => lhs; simp [dkB]) (by conv => lhs; simp) (by kernel_rfl) fun _ => ?_)
  simp only [dkB]
  first | exact retE2_ok false (by conv => lhs; simp [retE2, frqT, frqV, frqVs, frqL, frq1, reachE, blkRefs, outE, nodupE, firstE, seqO, expB2, expF, refsB, refsL, AV.refs, AV.ren, renL, renB, List.range, List.range.loop, resVs, resV, pack]) | fail "no return here"
def nx (L : List Int) (k : Nat) (n : Int) : Int := if h : k < L.length then L[k] % n else 0
def nk (L : List Int) (k : Nat) : Nat := if k < L.length then k + 1 else k
theorem nk_le {L : List Int} {k : Nat} (h : k ≤ L.length) : nk L k ≤ L.length := by unfold nk; split <;> omega
theorem nx_nonneg (L : List Int) (k : Nat) {n : Int} (h : 0 < n) : 0 ≤ nx L k n := by
  unfold nx; split
  · exact Int.emod_nonneg _ (by omega)
  · omega
theorem nx_lt (L : List Int) (k : Nat) {n : Int} (h : 0 < n) : nx L k n < n := by
  unfold nx; split
  · exact Int.emod_lt_of_pos _ h
  · exact h
def NxI := { x : List Int × Nat × Int // x.1.length ≤ maxLen ∧ x.2.1 ≤ x.1.length ∧ 0 < x.2.2 ∧ x.2.2 ≤ 4294967296 }
def encNx (x : NxI) : List AV × List ABlk := ([.ptr 0 0 0 0, .int .i64 x.1.2.2], [dkB x.1.1 x.1.2.1])
theorem encNx_inj {β : Type} {f : NxI → β} : ∀ x y, encNx x = encNx y → f x = f y := fun x y h => by
  simp only [encNx, Prod.mk.injEq, List.cons.injEq, AV.int.injEq, true_and, and_true] at h
  obtain ⟨h1, h2⟩ := dkB_inj h.2
  rw [Subtype.ext (Prod.ext h1 (Prod.ext h2 h.1))]
noncomputable def nextS : SpecFn := mkS2 encNx fun x => (.int .i64 (nx x.1.1 x.1.2.1 x.1.2.2), [dkB x.1.1 (nk x.1.1 x.1.2.1)])
theorem nextS_eq (L : List Int) (k : Nat) (n : Int) (h0 : L.length ≤ maxLen) (h1 : k ≤ L.length) (h2 : 0 < n) (h3 : n ≤ 4294967296) : nextS [.ptr 0 0 0 0, .int .i64 n] [{ gen := 0, kind := 2, elem := 137, size := 2, inl := false, rows := [[.list 1 (L.map ic), .int .i64 (k : Nat)]] }] =
    some (.int .i64 (nx L k n), [{ gen := 0, kind := 2, elem := 137, size := 2, inl := false, rows := [[.list 1 (L.map ic), .int .i64 (nk L k : Nat)]] }]) := mkS2_eq (enc := encNx) encNx_inj ⟨(L, k, n), h0, h1, h2, h3⟩
noncomputable def nx_specs : NL Spec := [(66, ⟨3, leftS⟩), (67, ⟨0, modS⟩)]
theorem nx_specs_ok : ∀ p ∈ nx_specs, FnC Try.prog p.1 p.2.fn := by
  simp only [nx_specs, List.mem_cons, List.not_mem_nil, or_false]
  rintro p (rfl | rfl)
  · exact left_ok
  · exact mod_ok
attribute [local simp] nx_specs leftS_eq
theorem next_ok : FnC Try.prog 24 nextS := by
  refine FnC.walkB 24 (fn := Try.f24) Try.func24 rfl (by kernel_rfl) (fun x b hb => by simp [encNx] at hb; rw [hb]; rfl) fun x => ?_
  obtain ⟨⟨L, k, n⟩, h0, h1, h2, h3⟩ := x
  dsimp only at h0 h1 h2 h3
  change W _ (RetB _ _ 1 _ _) _ _ ⟨28, [(0, .ptr 0 0 0 0), (1, .int .i64 n)], [(0, dkB L k)]⟩
  by_cases hk : k < L.length
  · have hm := modS_eq L[k] n h2 h3
    have hx : nx L k n = L[k] % n := by simp [nx, hk]
    have hn : nk L k = k + 1 := by simp [nk, hk]
    simp only [hx, hn]
    have hw := w64_succ hk h0
    rw [Int.natCast_add] at hw
    have hwk : IntKind.i64.wrap (k : Int) = k := w64_nat rfl h1 h0
    repeat (first | refine N.seq ?_ | refine N.blk ?_ | refine W.seq rfl ?_ | refine W.block rfl ?_ | refine W.skip rfl ?_ | refine W.ret rfl ?_ | refine N.nil ?_ | refine N.loop ?_ | refine W.exit rfl ?_ | refine X.seq ?_ | refine X.loop ?_ | refine X.hit ?_ | refine X.pass (by decide) ?_ | refine W.condT rfl (by rfl) ?_ | refine W.condF rfl (by rfl) ?_ | refine W.region tm nx_specs_ok rfl (by conv => lhs; simp [dkB, hk, hm, ic, hw, hwk]) fun _ => ?_ | refine W.regionD tm nx_specs_ok rfl (by conv => lhs; simp [dkB, hk, hm, ic, hw, hwk]) (by conv => lhs; simp) (by kernel_rfl) fun _ => ?_)
    simp only [dkB, Int.natCast_add, Int.natCast_one]
    first | exact retE2_ok false (by conv => lhs; simp [retE2, frqT, frqV, frqVs, frqL, frq1, reachE, blkRefs, outE, nodupE, firstE, seqO, expB2, expF, refsB, refsL, AV.refs, AV.ren, renL, renB, List.range, List.range.loop, resVs, resV, pack]) | fail "no return here"
  · have hx : nx L k n = 0 := by simp [nx, hk]
    have hn : nk L k = k := by simp [nk, hk]
    simp only [hx, hn]
    repeat (first | refine N.seq ?_ | refine N.blk ?_ | refine W.seq rfl ?_ | refine W.block rfl ?_ | refine W.skip rfl ?_ | refine W.ret rfl ?_ | refine N.nil ?_ | refine N.loop ?_ | refine W.exit rfl ?_ | refine X.seq ?_ | refine X.loop ?_ | refine X.hit ?_ | refine X.pass (by decide) ?_ | refine W.condT rfl (by rfl) ?_ | refine W.condF rfl (by rfl) ?_ | refine W.region tm nx_specs_ok rfl (by conv => lhs; simp [dkB, hk]) fun _ => ?_ | refine W.regionD tm nx_specs_ok rfl (by conv => lhs; simp [dkB, hk]) (by conv => lhs; simp) (by kernel_rfl) fun _ => ?_)
    simp only [dkB]
    first | exact retE2_ok false (by conv => lhs; simp [retE2, frqT, frqV, frqVs, frqL, frq1, reachE, blkRefs, outE, nodupE, firstE, seqO, expB2, expF, refsB, refsL, AV.refs, AV.ren, renL, renB, List.range, List.range.loop, resVs, resV, pack]) | fail "no return here"
end Go.Abs.Fi
