/- Noting. Conditions: none. -/
import Derived.Test.YtffoafkdoclfcaaGrD
namespace Go.Abs.Gr
open Go Go.Proofs Go.Abs
set_option maxRecDepth 100000
set_option maxHeartbeats 4000000
set_option linter.unusedSimpArgs false
set_option linter.unusedVariables false
/-! ### In order -/
attribute [local simp] runL stepA execA_eq skipA run_ret run_fail run_get run_put run_asm num lk st lk_st putA AS.ev ofValue ofFlat mkv splice fieldAddrA buildA fillA runF gdst pickA unOpA extractA resVs resV pack frzT inlT inlV frzV frzVs frzL frz1 newId AV.cellsOf AV.flat AV.flat2 specOf loadA_runR capA copyA copyTo srcA sliceCA slice3A appendZA extA AV.place lenCA clearA clearTo expG expB3 List.zipWith renL fF handB renB AV.ren backF backL idsOf freshIds refsL refsB AV.refs List.range List.range.loop placesA sliceRows rowsOf convertA sliceArrA sliceA bndA nilCheckA arrayAtA mmA lookupA keyOf keyOK findA keyEqA foundA makeMapA mapUpdateA appendA rowsA indexA partA fieldA retE2 frqT frqV frqVs frqL frq1 reachE blkRefs outE nodupE firstE seqO expB2 expF 
def lo (x y : Int) : Int := if y < x then y else x
def hi (x y : Int) : Int := if x < y then y else x
noncomputable def pairS : SpecFn := mkS encUU fun x => (.tup [.int .u64 (lo x.1 x.2), .int .u64 (hi x.1 x.2)], [])
theorem pairS_eq (x y : Int) : pairS [.int .u64 x, .int .u64 y] [] = some (.tup [.int .u64 (lo x y), .int .u64 (hi x y)], []) := mkS_eq (enc := encUU) encUU_inj (x, y)
theorem pair_ok : FnC Try.prog 22 pairS := by
  refine FnC.walk 22 (fn := Try.f22) Try.func22 rfl (by kernel_rfl) fun x => ?_
  obtain ⟨x, y⟩ := x
  change W _ _ _ _ ⟨12, [(0, .int .u64 x), (1, .int .u64 y)], []⟩
  repeat (first | refine N.seq ?_ | refine N.blk ?_ | refine W.seq rfl ?_ | refine W.block rfl ?_ | refine W.skip rfl ?_ | refine W.ret rfl ?_ | refine N.nil ?_ | refine N.loop ?_ | refine W.exit rfl ?_ | refine X.seq ?_ | refine X.loop ?_ | refine X.hit ?_ | refine X.pass (by decide) ?_ | refine W.condT rfl (by rfl) ?_ | refine W.condF rfl (by rfl) ?_ | refine W.region tm no_specs rfl (by conv => lhs; simp [mmA]) fun _ => ?_ | refine W.regionD tm no_specs rfl (by conv => lhs; simp [mmA]) (by conv => lhs; simp) (by kernel_rfl) fun _ => ?_)
  simp only [lo, hi]
  first | exact Ret.dataR rfl (by conv => lhs; simp) (by conv => lhs; simp) (by first | rfl | simp [inlT, inlV]) | fail "no return here"
/-! ### What noting gives -/
def upT (x : Tk) : Tk := ⟨x.a, x.b, IntKind.i64.wrap ((if 1048575 < x.c then 1048575 else x.c) + 1)⟩
theorem mod_map (l : List Tk) {k : Nat} (hk : k < l.length) : (l.map Tk.cells).set k (upT l[k]).cells = (l.modify k upT).map Tk.cells := by
  apply List.ext_getElem?
  intro j
  rw [List.getElem?_set, List.getElem?_map, List.getElem?_map, List.getElem?_modify]
  by_cases e : k = j
  · subst e
    simp [hk]
  · simp [e]
def at_ (l : List Tk) (p : Tk → Bool) : Nat := (l.findIdx? p).getD l.length
def note (l : List Tk) (a b : Int) : List Tk :=
  if lo a b = hi a b ∨ lo a b = 0 then l else
  match l.findIdx? (pq true ⟨lo a b, hi a b, 1⟩) with
  | some i => l.modify i upT
  | none => if 128 ≤ l.length then l else ins l (at_ l (pq false ⟨lo a b, hi a b, 1⟩)) ⟨lo a b, hi a b, 1⟩
theorem note_len (l : List Tk) (a b : Int) (h : l.length ≤ 200) : (note l a b).length ≤ 200 := by
  unfold note
  split
  · exact h
  · split
    · simpa using h
    · split
      · exact h
      · simp [ins]; omega
theorem ins_len (l : List Tk) {i : Nat} {t : Tk} (h : i ≤ l.length) : (ins l i t).length = l.length + 1 := by simp [ins]; omega
/-! ### The walk -/
theorem ixS_eq1 (l : List Tk) (a b c : Int) : ixS [.sl 0 0 0 l.length, .fn (.func 24) [] [.ptr 1 0 0 0]] [{ gen := 0, kind := 2, elem := 27, size := 3, inl := true, rows := l.map Tk.cells }, { gen := 0, kind := 2, elem := 27, size := 3, inl := false, rows := [[.int .u64 a, .int .u64 b, .int .i64 c]] }] =
    some (.int .i64 (fidx (pq true ⟨a, b, c⟩) l), [{ gen := 0, kind := 2, elem := 27, size := 3, inl := true, rows := l.map Tk.cells }, { gen := 0, kind := 2, elem := 27, size := 3, inl := false, rows := [[.int .u64 a, .int .u64 b, .int .i64 c]] }]) := mkS2_eq (enc := encIx) encIx_inj (true, l, ⟨a, b, c⟩)
theorem ixS_eq2 (l : List Tk) (a b c : Int) : ixS [.sl 0 0 0 l.length, .fn (.func 26) [] [.ptr 1 0 0 0]] [{ gen := 0, kind := 2, elem := 27, size := 3, inl := true, rows := l.map Tk.cells }, { gen := 0, kind := 2, elem := 27, size := 3, inl := false, rows := [[.int .u64 a, .int .u64 b, .int .i64 c]] }] =
    some (.int .i64 (fidx (pq false ⟨a, b, c⟩) l), [{ gen := 0, kind := 2, elem := 27, size := 3, inl := true, rows := l.map Tk.cells }, { gen := 0, kind := 2, elem := 27, size := 3, inl := false, rows := [[.int .u64 a, .int .u64 b, .int .i64 c]] }]) := mkS2_eq (enc := encIx) encIx_inj (false, l, ⟨a, b, c⟩)
theorem insS_eq (l : List Tk) (i : Nat) (a b c : Int) (h : l.length < 200) (hi : i ≤ l.length) : insS [.sl 0 0 0 l.length, .int .i64 (i : Nat), .sl 1 0 0 1] [{ gen := 0, kind := 2, elem := 27, size := 3, inl := true, rows := l.map Tk.cells }, { gen := 0, kind := 2, elem := 27, size := 3, inl := true, rows := [[.int .u64 a, .int .u64 b, .int .i64 c]] }] =
    some (.sl 0 1 0 (l.length + 1), [{ gen := 1, kind := 2, elem := 27, size := 3, inl := true, rows := (ins l i ⟨a, b, c⟩).map Tk.cells }, { gen := 0, kind := 2, elem := 27, size := 3, inl := true, rows := [[.int .u64 a, .int .u64 b, .int .i64 c]] }]) := mkS2_eq (enc := encI) encI_inj ⟨(l, i, ⟨a, b, c⟩), h, hi⟩
def encNt (x : Tks × Int × Int) : List AV × List ABlk := ([.list 3 (x.1.1.map Tk.cells), .int .u64 x.2.1, .int .u64 x.2.2], [])
theorem encNt_inj {β : Type} {f : Tks × Int × Int → β} : ∀ x y, encNt x = encNt y → f x = f y := fun x y h => by
  obtain ⟨l, a, b⟩ := x
  obtain ⟨l', a', b'⟩ := y
  simp only [encNt, Prod.mk.injEq, List.cons.injEq, AV.list.injEq, AV.int.injEq, true_and, and_true] at h
  obtain ⟨h1, rfl, rfl⟩ := h
  rw [Subtype.ext (map_inj Tk.inj h1)]
noncomputable def noteS : SpecFn := mkS2 encNt fun x => (.sl 0 0 0 (note x.1.1 x.2.1 x.2.2).length, [tksB (note x.1.1 x.2.1 x.2.2)])
noncomputable def nt_specs : NL Spec := [(21, ⟨3, cloneS⟩), (22, ⟨0, pairS⟩), (23, ⟨3, ixS⟩), (27, ⟨3, insS⟩)]
theorem nt_specs_ok : ∀ p ∈ nt_specs, FnC Try.prog p.1 p.2.fn := by
  simp only [nt_specs, List.mem_cons, List.not_mem_nil, or_false]
  rintro p (rfl | rfl | rfl | rfl)
  · exact clone_ok
  · exact pair_ok
  · exact index_ok
  · exact insert_ok
attribute [local simp] List.findIdx?_cons List.findIdx?_nil nt_specs cloneS_eq pairS_eq ixS_eq1 ixS_eq2 insS_eq
theorem note_ok : FnC Try.prog 11 noteS := by
  refine FnC.walkB 11 (fn := Try.f11) Try.func11 rfl (by kernel_rfl) (fun x b hb => by simp [encNt] at hb) fun x => ?_
  obtain ⟨⟨l, hl⟩, a, b⟩ := x
  change W _ (RetB _ _ 0 _ _) _ _ ⟨63, [(0, .list 3 (l.map Tk.cells)), (1, .int .u64 a), (2, .int .u64 b)], []⟩
  have hc := cloneS_eq l hl
  by_cases h0 : lo a b = hi a b ∨ lo a b = 0
  · have hn : note l a b = l := by rw [note, if_pos h0]
    dsimp only
    rw [hn]
    by_cases e1 : lo a b = hi a b
    · have e1 : (lo a b == hi a b) = true := by simpa using e1
      repeat (first | refine N.seq ?_ | refine N.blk ?_ | refine W.seq rfl ?_ | refine W.block rfl ?_ | refine W.skip rfl ?_ | refine W.ret rfl ?_ | refine N.nil ?_ | refine N.loop ?_ | refine W.exit rfl ?_ | refine X.seq ?_ | refine X.loop ?_ | refine X.hit ?_ | refine X.pass (by decide) ?_ | refine W.condT rfl (by rfl) ?_ | refine W.condF rfl (by rfl) ?_ | refine W.region tm nt_specs_ok rfl (by conv => lhs; simp [hc, e1, tksB]) fun _ => ?_ | refine W.regionD tm nt_specs_ok rfl (by conv => lhs; simp [hc, e1, tksB]) (by conv => lhs; simp) (by kernel_rfl) fun _ => ?_)
      simp only [tksB]
      first | exact retE2_ok false (by conv => lhs; simp [retE2, frqT, frqV, frqVs, frqL, frq1, reachE, blkRefs, outE, nodupE, firstE, seqO, expB2, expF, refsB, refsL, AV.refs, AV.ren, renL, renB, List.range, List.range.loop, resVs, resV, pack]) | fail "no return here"
    · have e2 : (lo a b == 0) = true := by simpa using h0.resolve_left e1
      have e1 : (lo a b == hi a b) = false := by simpa using e1
      repeat (first | refine N.seq ?_ | refine N.blk ?_ | refine W.seq rfl ?_ | refine W.block rfl ?_ | refine W.skip rfl ?_ | refine W.ret rfl ?_ | refine N.nil ?_ | refine N.loop ?_ | refine W.exit rfl ?_ | refine X.seq ?_ | refine X.loop ?_ | refine X.hit ?_ | refine X.pass (by decide) ?_ | refine W.condT rfl (by rfl) ?_ | refine W.condF rfl (by rfl) ?_ | refine W.region tm nt_specs_ok rfl (by conv => lhs; simp [hc, e1, e2, tksB]) fun _ => ?_ | refine W.regionD tm nt_specs_ok rfl (by conv => lhs; simp [hc, e1, e2, tksB]) (by conv => lhs; simp) (by kernel_rfl) fun _ => ?_)
      simp only [tksB]
      first | exact retE2_ok false (by conv => lhs; simp [retE2, frqT, frqV, frqVs, frqL, frq1, reachE, blkRefs, outE, nodupE, firstE, seqO, expB2, expF, refsB, refsL, AV.refs, AV.ren, renL, renB, List.range, List.range.loop, resVs, resV, pack]) | fail "no return here"
  · have e1 : (lo a b == hi a b) = false := by simpa using fun h => h0 (.inl h)
    have e2 : (lo a b == 0) = false := by simpa using fun h => h0 (.inr h)
    cases hj : l.findIdx? (pq true ⟨lo a b, hi a b, 1⟩) with
    | some k =>
      have hn : note l a b = l.modify k upT := by rw [note, if_neg h0, hj]
      dsimp only
      rw [hn]
      have hf : fidx (pq true ⟨lo a b, hi a b, 1⟩) l = (k : Nat) := by simp [fidx, hj]
      obtain ⟨hk, -, -⟩ := List.findIdx?_eq_some_iff_getElem.1 hj
      repeat (first | refine N.seq ?_ | refine N.blk ?_ | refine W.seq rfl ?_ | refine W.block rfl ?_ | refine W.skip rfl ?_ | refine W.ret rfl ?_ | refine N.nil ?_ | refine N.loop ?_ | refine W.exit rfl ?_ | refine X.seq ?_ | refine X.loop ?_ | refine X.hit ?_ | refine X.pass (by decide) ?_ | refine W.condT rfl (by rfl) ?_ | refine W.condF rfl (by rfl) ?_ | refine W.region tm nt_specs_ok rfl (by conv => lhs; simp [hc, e1, e2, tksB, maxLen, hf, hk, mmA, Tk.cells]) fun _ => ?_ | refine W.regionD tm nt_specs_ok rfl (by conv => lhs; simp [hc, e1, e2, tksB, maxLen, hf, hk, mmA, Tk.cells]) (by conv => lhs; simp) (by kernel_rfl) fun _ => ?_)
      simp only [tksB, ← mod_map l hk, List.length_modify, upT, Tk.cells]
      first | exact retE2_ok false (by conv => lhs; simp [retE2, frqT, frqV, frqVs, frqL, frq1, reachE, blkRefs, outE, nodupE, firstE, seqO, expB2, expF, refsB, refsL, AV.refs, AV.ren, renL, renB, List.range, List.range.loop, resVs, resV, pack]) | fail "no return here"
    | none =>
      have hf : fidx (pq true ⟨lo a b, hi a b, 1⟩) l = -1 := by simp [fidx, hj]
      by_cases hl2 : 128 ≤ l.length
      · have hn : note l a b = l := by rw [note, if_neg h0, hj]; simp only [if_pos hl2]
        dsimp only
        rw [hn]
        have hl3 : (128 : Int) ≤ l.length := by omega
        repeat (first | refine N.seq ?_ | refine N.blk ?_ | refine W.seq rfl ?_ | refine W.block rfl ?_ | refine W.skip rfl ?_ | refine W.ret rfl ?_ | refine N.nil ?_ | refine N.loop ?_ | refine W.exit rfl ?_ | refine X.seq ?_ | refine X.loop ?_ | refine X.hit ?_ | refine X.pass (by decide) ?_ | refine W.condT rfl (by rfl) ?_ | refine W.condF rfl (by rfl) ?_ | refine W.region tm nt_specs_ok rfl (by conv => lhs; simp [hc, e1, e2, tksB, maxLen, hf, hl3]) fun _ => ?_ | refine W.regionD tm nt_specs_ok rfl (by conv => lhs; simp [hc, e1, e2, tksB, maxLen, hf, hl3]) (by conv => lhs; simp) (by kernel_rfl) fun _ => ?_)
        simp only [tksB]
        first | exact retE2_ok false (by conv => lhs; simp [retE2, frqT, frqV, frqVs, frqL, frq1, reachE, blkRefs, outE, nodupE, firstE, seqO, expB2, expF, refsB, refsL, AV.refs, AV.ren, renL, renB, List.range, List.range.loop, resVs, resV, pack]) | fail "no return here"
      · have hl3 : ¬ (128 : Int) ≤ l.length := by omega
        have hl4 : l.length < 200 := by omega
        have hn : note l a b = ins l (at_ l (pq false ⟨lo a b, hi a b, 1⟩)) ⟨lo a b, hi a b, 1⟩ := by rw [note, if_neg h0, hj]; simp only [if_neg hl2]
        dsimp only
        rw [hn]
        cases hi2 : l.findIdx? (pq false ⟨lo a b, hi a b, 1⟩) with
        | some i =>
          obtain ⟨hi3, -, -⟩ := List.findIdx?_eq_some_iff_getElem.1 hi2
          have hi4 : i ≤ l.length := by omega
          have hf2 : fidx (pq false ⟨lo a b, hi a b, 1⟩) l = (i : Nat) := by simp [fidx, hi2]
          have hf3 : ¬ (i : Int) < 0 := by omega
          repeat (first | refine N.seq ?_ | refine N.blk ?_ | refine W.seq rfl ?_ | refine W.block rfl ?_ | refine W.skip rfl ?_ | refine W.ret rfl ?_ | refine N.nil ?_ | refine N.loop ?_ | refine W.exit rfl ?_ | refine X.seq ?_ | refine X.loop ?_ | refine X.hit ?_ | refine X.pass (by decide) ?_ | refine W.condT rfl (by rfl) ?_ | refine W.condF rfl (by rfl) ?_ | refine W.region tm nt_specs_ok rfl (by conv => lhs; simp [hc, e1, e2, tksB, maxLen, hf, hl3, hf2, hl4, hi4, hf3]) fun _ => ?_ | refine W.regionD tm nt_specs_ok rfl (by conv => lhs; simp [hc, e1, e2, tksB, maxLen, hf, hl3, hf2, hl4, hi4, hf3]) (by conv => lhs; simp) (by kernel_rfl) fun _ => ?_)
          simp only [at_, hi2, Option.getD_some, tksB, ins_len l hi4]
          first | exact retE2_ok false (by conv => lhs; simp [retE2, frqT, frqV, frqVs, frqL, frq1, reachE, blkRefs, outE, nodupE, firstE, seqO, expB2, expF, refsB, refsL, AV.refs, AV.ren, renL, renB, List.range, List.range.loop, resVs, resV, pack]) | fail "no return here"
        | none =>
          have hf2 : fidx (pq false ⟨lo a b, hi a b, 1⟩) l = -1 := by simp [fidx, hi2]
          repeat (first | refine N.seq ?_ | refine N.blk ?_ | refine W.seq rfl ?_ | refine W.block rfl ?_ | refine W.skip rfl ?_ | refine W.ret rfl ?_ | refine N.nil ?_ | refine N.loop ?_ | refine W.exit rfl ?_ | refine X.seq ?_ | refine X.loop ?_ | refine X.hit ?_ | refine X.pass (by decide) ?_ | refine W.condT rfl (by rfl) ?_ | refine W.condF rfl (by rfl) ?_ | refine W.region tm nt_specs_ok rfl (by conv => lhs; simp [hc, e1, e2, tksB, maxLen, hf, hl3, hf2, hl4]) fun _ => ?_ | refine W.regionD tm nt_specs_ok rfl (by conv => lhs; simp [hc, e1, e2, tksB, maxLen, hf, hl3, hf2, hl4]) (by conv => lhs; simp) (by kernel_rfl) fun _ => ?_)
          simp only [at_, hi2, Option.getD_none, tksB, ins_len l (Nat.le_refl _)]
          first | exact retE2_ok false (by conv => lhs; simp [retE2, frqT, frqV, frqVs, frqL, frq1, reachE, blkRefs, outE, nodupE, firstE, seqO, expB2, expF, refsB, refsL, AV.refs, AV.ren, renL, renB, List.range, List.range.loop, resVs, resV, pack]) | fail "no return here"
end Go.Abs.Gr
