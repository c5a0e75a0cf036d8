/- Comparing talks, and finding one. Conditions: none. -/
import Derived.Test.YtffoafkdoclfcaaGrA
namespace Go.Abs.Gr
open Go Go.Proofs Go.Abs
set_option maxRecDepth 100000
set_option maxHeartbeats 4000000
set_option linter.unusedSimpArgs false
set_option linter.unusedVariables false
structure Tk where
  a : Int
  b : Int
  c : Int
def Tk.cells (x : Tk) : List AV := [.int .u64 x.a, .int .u64 x.b, .int .i64 x.c]
theorem Tk.inj (x y : Tk) (h : x.cells = y.cells) : x = y := by
  cases x; cases y
  simp only [Tk.cells, List.cons.injEq, AV.int.injEq, true_and, and_true] at h
  obtain ⟨rfl, rfl, rfl⟩ := h
  rfl
def cmpI (x y : Int) : Int := if x < y then -1 else if y < x then 1 else 0
def byP (x y : Tk) : Int := if cmpI x.a y.a = 0 then cmpI x.b y.b else cmpI x.a y.a
/-! ### Comparing -/
attribute [local simp] runL stepA execA_eq skipA run_ret run_fail run_get run_put run_asm num lk st lk_st putA AS.ev ofValue ofFlat mkv splice fieldAddrA buildA fillA runF gdst pickA unOpA extractA resVs resV pack frzT inlT inlV frzV frzVs frzL frz1 newId AV.cellsOf AV.flat AV.flat2 specOf loadA_runR capA copyA copyTo srcA sliceCA slice3A appendZA extA AV.place lenCA clearA clearTo expG expB3 List.zipWith renL fF handB renB AV.ren backF backL idsOf freshIds refsL refsB AV.refs List.range List.range.loop placesA sliceRows rowsOf convertA sliceArrA sliceA bndA nilCheckA arrayAtA mmA lookupA keyOf keyOK findA keyEqA foundA makeMapA mapUpdateA appendA rowsA indexA partA fieldA retE2 frqT frqV frqVs frqL frq1 reachE blkRefs outE nodupE firstE seqO expB2 expF 
noncomputable def nanS : SpecFn := mkS (fun n : Int => [.int .u64 n]) fun n => (.bool false, [])
theorem nanS_eq (n : Int) : nanS [.int .u64 n] [] = some (.bool false, []) := mkS_eq (enc := fun n : Int => [.int .u64 n]) (fun x y h => rfl) n
theorem nan_ok : FnC Try.prog 56 nanS := by
  refine FnC.walk 56 (fn := Try.f56) Try.func56 rfl (by kernel_rfl) fun n => ?_
  change W _ _ _ _ ⟨6, [(0, .int .u64 n)], []⟩
  repeat (first | refine N.seq ?_ | refine N.blk ?_ | refine W.seq rfl ?_ | refine W.block rfl ?_ | refine W.skip rfl ?_ | refine W.ret rfl ?_ | refine N.nil ?_ | refine N.loop ?_ | refine W.exit rfl ?_ | refine X.seq ?_ | refine X.loop ?_ | refine X.hit ?_ | refine X.pass (by decide) ?_ | refine W.condT rfl (by rfl) ?_ | refine W.condF rfl (by rfl) ?_ | refine W.region tm no_specs rfl (by conv => lhs; simp) fun _ => ?_ | refine W.regionD tm no_specs rfl (by conv => lhs; simp) (by conv => lhs; simp) (by kernel_rfl) fun _ => ?_)
  first | exact Ret.dataR rfl (by conv => lhs; simp) (by conv => lhs; simp) (by first | rfl | simp [inlT, inlV]) | fail "no return here"
def encUU (x : Int × Int) : List AV := [.int .u64 x.1, .int .u64 x.2]
theorem encUU_inj {β : Type} {f : Int × Int → β} : ∀ x y, encUU x = encUU y → f x = f y := fun x y h => by
  simp only [encUU, List.cons.injEq, AV.int.injEq, true_and, and_true] at h
  rw [Prod.ext h.1 h.2]
noncomputable def cmpS : SpecFn := mkS encUU fun x => (.int .i64 (cmpI x.1 x.2), [])
theorem cmpS_eq (x y : Int) : cmpS [.int .u64 x, .int .u64 y] [] = some (.int .i64 (cmpI x y), []) := mkS_eq (enc := encUU) encUU_inj (x, y)
noncomputable def c_specs : NL Spec := [(56, ⟨0, nanS⟩)]
theorem c_specs_ok : ∀ p ∈ c_specs, FnC Try.prog p.1 p.2.fn := by
  simp only [c_specs, List.mem_cons, List.not_mem_nil, or_false]
  rintro p rfl
  exact nan_ok
attribute [local simp] c_specs nanS_eq
theorem cmp_ok : FnC Try.prog 41 cmpS := by
  refine FnC.walk 41 (fn := Try.f41) Try.func41 rfl (by kernel_rfl) fun x => ?_
  obtain ⟨x, y⟩ := x
  change W _ _ _ _ ⟨20, [(0, .int .u64 x), (1, .int .u64 y)], []⟩
  by_cases h1 : x < y
  · repeat (first | refine N.seq ?_ | refine N.blk ?_ | refine W.seq rfl ?_ | refine W.block rfl ?_ | refine W.skip rfl ?_ | refine W.ret rfl ?_ | refine N.nil ?_ | refine N.loop ?_ | refine W.exit rfl ?_ | refine X.seq ?_ | refine X.loop ?_ | refine X.hit ?_ | refine X.pass (by decide) ?_ | refine W.condT rfl (by rfl) ?_ | refine W.condF rfl (by rfl) ?_ | refine W.region tm c_specs_ok rfl (by conv => lhs; simp [h1]) fun _ => ?_ | refine W.regionD tm c_specs_ok rfl (by conv => lhs; simp [h1]) (by conv => lhs; simp) (by kernel_rfl) fun _ => ?_)
    simp only [cmpI, h1, if_true]
    first | exact Ret.dataR rfl (by conv => lhs; simp) (by conv => lhs; simp) (by first | rfl | simp [inlT, inlV]) | fail "no return here"
  · by_cases h2 : y < x
    · repeat (first | refine N.seq ?_ | refine N.blk ?_ | refine W.seq rfl ?_ | refine W.block rfl ?_ | refine W.skip rfl ?_ | refine W.ret rfl ?_ | refine N.nil ?_ | refine N.loop ?_ | refine W.exit rfl ?_ | refine X.seq ?_ | refine X.loop ?_ | refine X.hit ?_ | refine X.pass (by decide) ?_ | refine W.condT rfl (by rfl) ?_ | refine W.condF rfl (by rfl) ?_ | refine W.region tm c_specs_ok rfl (by conv => lhs; simp [h1, h2]) fun _ => ?_ | refine W.regionD tm c_specs_ok rfl (by conv => lhs; simp [h1, h2]) (by conv => lhs; simp) (by kernel_rfl) fun _ => ?_)
      simp only [cmpI, h1, h2, if_true, if_false]
      first | exact Ret.dataR rfl (by conv => lhs; simp) (by conv => lhs; simp) (by first | rfl | simp [inlT, inlV]) | fail "no return here"
    · repeat (first | refine N.seq ?_ | refine N.blk ?_ | refine W.seq rfl ?_ | refine W.block rfl ?_ | refine W.skip rfl ?_ | refine W.ret rfl ?_ | refine N.nil ?_ | refine N.loop ?_ | refine W.exit rfl ?_ | refine X.seq ?_ | refine X.loop ?_ | refine X.hit ?_ | refine X.pass (by decide) ?_ | refine W.condT rfl (by rfl) ?_ | refine W.condF rfl (by rfl) ?_ | refine W.region tm c_specs_ok rfl (by conv => lhs; simp [h1, h2]) fun _ => ?_ | refine W.regionD tm c_specs_ok rfl (by conv => lhs; simp [h1, h2]) (by conv => lhs; simp) (by kernel_rfl) fun _ => ?_)
      simp only [cmpI, h1, h2, if_false]
      first | exact Ret.dataR rfl (by conv => lhs; simp) (by conv => lhs; simp) (by first | rfl | simp [inlT, inlV]) | fail "no return here"
/-! ### The first that is not nought -/
def encOr (x : Int × Int) : List AV := [.list 1 [[.int .i64 x.1], [.int .i64 x.2]]]
theorem encOr_inj {β : Type} {f : Int × Int → β} : ∀ x y, encOr x = encOr y → f x = f y := fun x y h => by
  simp only [encOr, List.cons.injEq, AV.list.injEq, AV.int.injEq, true_and, and_true] at h
  rw [Prod.ext h.1 h.2]
noncomputable def orS : SpecFn := mkS encOr fun x => (.int .i64 (if x.1 = 0 then x.2 else x.1), [])
theorem orS_eq (x y : Int) : orS [.list 1 [[.int .i64 x], [.int .i64 y]]] [] = some (.int .i64 (if x = 0 then y else x), []) := mkS_eq (enc := encOr) encOr_inj (x, y)
theorem or_ok : FnC Try.prog 35 orS := by
  refine FnC.walk 35 (fn := Try.f35) Try.func35 rfl (by kernel_rfl) fun x => ?_
  obtain ⟨x, y⟩ := x
  change W _ _ _ _ ⟨18, [(0, .list 1 [[.int .i64 x], [.int .i64 y]])], []⟩
  repeat (first | refine N.seq ?_ | refine N.blk ?_ | refine W.seq rfl ?_ | refine W.block rfl ?_ | refine W.skip rfl ?_ | refine W.ret rfl ?_ | refine N.nil ?_ | refine N.loop ?_ | refine W.exit rfl ?_ | refine X.seq ?_ | refine X.loop ?_ | refine X.hit ?_ | refine X.pass (by decide) ?_ | refine W.condT rfl (by rfl) ?_ | refine W.condF rfl (by rfl) ?_ | refine W.region tm no_specs rfl (by conv => lhs; simp [maxLen]) fun _ => ?_ | refine W.regionD tm no_specs rfl (by conv => lhs; simp [maxLen]) (by conv => lhs; simp) (by kernel_rfl) fun _ => ?_)
  refine W.loop rfl (ι := { k : Nat // k ≤ 2 ∧ (0 < k → x = 0) ∧ (1 < k → y = 0) }) (fun k => ⟨18, [(3, .int .i64 0), (6, .list 1 [[.int .i64 x], [.int .i64 y]]), (7, .int .i64 2), (8, .int .i64 k.1)], []⟩) (fun k => 2 - k.1) ⟨0, by omega, by simp, by simp⟩ (AS.le_of rfl ⟨rfl, rfl, rfl, rfl, trivial⟩ (fun _ => rfl)) ?_
  rintro ⟨k, hk, h1, h2⟩
  dsimp only
  match k, hk with
  | 0, _ =>
    by_cases hx : x = 0
    · subst hx
      repeat (first | refine N.seq ?_ | refine N.blk ?_ | refine W.seq rfl ?_ | refine W.block rfl ?_ | refine W.skip rfl ?_ | refine W.ret rfl ?_ | refine N.nil ?_ | refine N.loop ?_ | refine W.exit rfl ?_ | refine X.seq ?_ | refine X.loop ?_ | refine X.hit ?_ | refine X.pass (by decide) ?_ | refine W.condT rfl (by rfl) ?_ | refine W.condF rfl (by rfl) ?_ | refine W.region tm no_specs rfl (by conv => lhs; simp) fun _ => ?_ | refine W.regionD tm no_specs rfl (by conv => lhs; simp) (by conv => lhs; simp) (by kernel_rfl) fun _ => ?_)
      exact ⟨⟨1, by omega, by simp, by simp⟩, by simp, AS.le_of rfl ⟨rfl, rfl, rfl, rfl, trivial⟩ (fun _ => rfl)⟩
    · have hb : (x != 0) = true := by simpa using hx
      repeat (first | refine N.seq ?_ | refine N.blk ?_ | refine W.seq rfl ?_ | refine W.block rfl ?_ | refine W.skip rfl ?_ | refine W.ret rfl ?_ | refine N.nil ?_ | refine N.loop ?_ | refine W.exit rfl ?_ | refine X.seq ?_ | refine X.loop ?_ | refine X.hit ?_ | refine X.pass (by decide) ?_ | refine W.condT rfl (by rfl) ?_ | refine W.condF rfl (by rfl) ?_ | refine W.region tm no_specs rfl (by conv => lhs; simp [hb]) fun _ => ?_ | refine W.regionD tm no_specs rfl (by conv => lhs; simp [hb]) (by conv => lhs; simp) (by kernel_rfl) fun _ => ?_)
      simp only [if_neg hx]
      first | exact Ret.dataR rfl (by conv => lhs; simp) (by conv => lhs; simp) (by first | rfl | simp [inlT, inlV]) | fail "no return here"
  | 1, _ =>
    have hx : x = 0 := h1 (by omega)
    by_cases hy : y = 0
    · subst hx; subst hy
      repeat (first | refine N.seq ?_ | refine N.blk ?_ | refine W.seq rfl ?_ | refine W.block rfl ?_ | refine W.skip rfl ?_ | refine W.ret rfl ?_ | refine N.nil ?_ | refine N.loop ?_ | refine W.exit rfl ?_ | refine X.seq ?_ | refine X.loop ?_ | refine X.hit ?_ | refine X.pass (by decide) ?_ | refine W.condT rfl (by rfl) ?_ | refine W.condF rfl (by rfl) ?_ | refine W.region tm no_specs rfl (by conv => lhs; simp) fun _ => ?_ | refine W.regionD tm no_specs rfl (by conv => lhs; simp) (by conv => lhs; simp) (by kernel_rfl) fun _ => ?_)
      exact ⟨⟨2, by omega, by simp, by simp⟩, by simp, AS.le_of rfl ⟨rfl, rfl, rfl, rfl, trivial⟩ (fun _ => rfl)⟩
    · have hb : (y != 0) = true := by simpa using hy
      repeat (first | refine N.seq ?_ | refine N.blk ?_ | refine W.seq rfl ?_ | refine W.block rfl ?_ | refine W.skip rfl ?_ | refine W.ret rfl ?_ | refine N.nil ?_ | refine N.loop ?_ | refine W.exit rfl ?_ | refine X.seq ?_ | refine X.loop ?_ | refine X.hit ?_ | refine X.pass (by decide) ?_ | refine W.condT rfl (by rfl) ?_ | refine W.condF rfl (by rfl) ?_ | refine W.region tm no_specs rfl (by conv => lhs; simp [hb]) fun _ => ?_ | refine W.regionD tm no_specs rfl (by conv => lhs; simp [hb]) (by conv => lhs; simp) (by kernel_rfl) fun _ => ?_)
      simp only [if_pos hx]
      first | exact Ret.dataR rfl (by conv => lhs; simp) (by conv => lhs; simp) (by first | rfl | simp [inlT, inlV]) | fail "no return here"
  | 2, _ =>
    have hx : x = 0 := h1 (by omega)
    have hy : y = 0 := h2 (by omega)
    subst hx; subst hy
    repeat (first | refine N.seq ?_ | refine N.blk ?_ | refine W.seq rfl ?_ | refine W.block rfl ?_ | refine W.skip rfl ?_ | refine W.ret rfl ?_ | refine N.nil ?_ | refine N.loop ?_ | refine W.exit rfl ?_ | refine X.seq ?_ | refine X.loop ?_ | refine X.hit ?_ | refine X.pass (by decide) ?_ | refine W.condT rfl (by rfl) ?_ | refine W.condF rfl (by rfl) ?_ | refine W.region tm no_specs rfl (by conv => lhs; simp) fun _ => ?_ | refine W.regionD tm no_specs rfl (by conv => lhs; simp) (by conv => lhs; simp) (by kernel_rfl) fun _ => ?_)
    simp only [ite_self]
    first | exact Ret.dataR rfl (by conv => lhs; simp) (by conv => lhs; simp) (by first | rfl | simp [inlT, inlV]) | fail "no return here"
/-! ### Two talks -/
def encTT (x : Tk × Tk) : List AV := [.agg x.1.cells, .agg x.2.cells]
theorem encTT_inj {β : Type} {f : Tk × Tk → β} : ∀ x y, encTT x = encTT y → f x = f y := fun x y h => by
  simp only [encTT, List.cons.injEq, AV.agg.injEq, and_true] at h
  rw [Prod.ext (Tk.inj _ _ h.1) (Tk.inj _ _ h.2)]
noncomputable def byS : SpecFn := mkS encTT fun x => (.int .i64 (byP x.1 x.2), [])
theorem byS_eq (x y : Tk) : byS [.agg [.int .u64 x.a, .int .u64 x.b, .int .i64 x.c], .agg [.int .u64 y.a, .int .u64 y.b, .int .i64 y.c]] [] = some (.int .i64 (byP x y), []) := mkS_eq (enc := encTT) encTT_inj (x, y)
noncomputable def b_specs : NL Spec := [(41, ⟨0, cmpS⟩), (35, ⟨0, orS⟩)]
theorem b_specs_ok : ∀ p ∈ b_specs, FnC Try.prog p.1 p.2.fn := by
  simp only [b_specs, List.mem_cons, List.not_mem_nil, or_false]
  rintro p (rfl | rfl)
  · exact cmp_ok
  · exact or_ok
attribute [local simp] b_specs cmpS_eq orS_eq Tk.cells
theorem by_ok : FnC Try.prog 25 byS := by
  refine FnC.walk 25 (fn := Try.f25) Try.func25 rfl (by kernel_rfl) fun x => ?_
  obtain ⟨x, y⟩ := x
  change W _ _ _ _ ⟨17, [(0, .agg x.cells), (1, .agg y.cells)], []⟩
  repeat (first | refine N.seq ?_ | refine N.blk ?_ | refine W.seq rfl ?_ | refine W.block rfl ?_ | refine W.skip rfl ?_ | refine W.ret rfl ?_ | refine N.nil ?_ | refine N.loop ?_ | refine W.exit rfl ?_ | refine X.seq ?_ | refine X.loop ?_ | refine X.hit ?_ | refine X.pass (by decide) ?_ | refine W.condT rfl (by rfl) ?_ | refine W.condF rfl (by rfl) ?_ | refine W.region tm b_specs_ok rfl (by conv => lhs; simp [maxLen]) fun _ => ?_ | refine W.regionD tm b_specs_ok rfl (by conv => lhs; simp [maxLen]) (by conv => lhs; simp) (by kernel_rfl) fun _ => ?_)
  simp only [byP]
  first | exact Ret.dataR rfl (by conv => lhs; simp) (by conv => lhs; simp) (by first | rfl | simp [inlT, inlV]) | fail "no return here"
/-! ### The two closures of 'Note' -/
def tkB (t : Tk) : ABlk := { gen := 0, kind := 2, elem := 27, size := 3, inl := false, rows := [[.int .u64 t.a, .int .u64 t.b, .int .i64 t.c]] }
theorem tkB_inj {x y : Tk} (h : tkB x = tkB y) : x = y := by
  refine Tk.inj x y ?_
  simp only [tkB, ABlk.mk.injEq, List.cons.injEq, true_and, and_true] at h
  simp only [Tk.cells, h.1, h.2.1, h.2.2]
def encCl (x : Tk × Tk) : List AV × List ABlk := ([.agg x.1.cells, .ptr 0 0 0 0], [tkB x.2])
theorem encCl_inj {β : Type} {f : Tk × Tk → β} : ∀ x y, encCl x = encCl y → f x = f y := fun x y h => by
  simp only [encCl, Prod.mk.injEq, List.cons.injEq, AV.agg.injEq, and_true] at h
  rw [Prod.ext (Tk.inj _ _ h.1) (tkB_inj h.2)]
def pq (g : Bool) (t x : Tk) : Bool := if g then byP x t == 0 else decide (0 < byP x t)
noncomputable def clS (g : Bool) : SpecFn := mkS2 encCl fun x => (.bool (pq g x.2 x.1), [tkB x.2])
theorem clS_eq (g : Bool) (x t : Tk) : clS g [.agg [.int .u64 x.a, .int .u64 x.b, .int .i64 x.c], .ptr 0 0 0 0] [{ gen := 0, kind := 2, elem := 27, size := 3, inl := false, rows := [[.int .u64 t.a, .int .u64 t.b, .int .i64 t.c]] }] =
    some (.bool (pq g t x), [{ gen := 0, kind := 2, elem := 27, size := 3, inl := false, rows := [[.int .u64 t.a, .int .u64 t.b, .int .i64 t.c]] }]) := mkS2_eq (enc := encCl) encCl_inj (x, t)
noncomputable def n_specs : NL Spec := [(25, ⟨0, byS⟩)]
theorem n_specs_ok : ∀ p ∈ n_specs, FnC Try.prog p.1 p.2.fn := by
  simp only [n_specs, List.mem_cons, List.not_mem_nil, or_false]
  rintro p rfl
  exact by_ok
attribute [local simp] n_specs byS_eq
theorem note1_ok : FnC Try.prog 24 (clS true) := by
  refine FnC.walkB 24 (fn := Try.f24) Try.func24 rfl (by kernel_rfl) (fun x b hb => by simp [encCl] at hb; rw [hb]; rfl) fun x => ?_
  obtain ⟨x, t⟩ := x
  change W _ (RetB _ _ 1 _ _) _ _ ⟨8, [(0, .agg x.cells), (1, .ptr 0 0 0 0)], [(0, tkB t)]⟩
  repeat (first | refine N.seq ?_ | refine N.blk ?_ | refine W.seq rfl ?_ | refine W.block rfl ?_ | refine W.skip rfl ?_ | refine W.ret rfl ?_ | refine N.nil ?_ | refine N.loop ?_ | refine W.exit rfl ?_ | refine X.seq ?_ | refine X.loop ?_ | refine X.hit ?_ | refine X.pass (by decide) ?_ | refine W.condT rfl (by rfl) ?_ | refine W.condF rfl (by rfl) ?_ | refine W.region tm n_specs_ok rfl (by conv => lhs; simp [tkB]) fun _ => ?_ | refine W.regionD tm n_specs_ok rfl (by conv => lhs; simp [tkB]) (by conv => lhs; simp) (by kernel_rfl) fun _ => ?_)
  simp only [pq, tkB, if_true]
  first | exact retE2_ok false (by conv => lhs; simp [retE2, frqT, frqV, frqVs, frqL, frq1, reachE, blkRefs, outE, nodupE, firstE, seqO, expB2, expF, refsB, refsL, AV.refs, AV.ren, renL, renB, List.range, List.range.loop, resVs, resV, pack]) | fail "no return here"
theorem note2_ok : FnC Try.prog 26 (clS false) := by
  refine FnC.walkB 26 (fn := Try.f26) Try.func26 rfl (by kernel_rfl) (fun x b hb => by simp [encCl] at hb; rw [hb]; rfl) fun x => ?_
  obtain ⟨x, t⟩ := x
  change W _ (RetB _ _ 1 _ _) _ _ ⟨8, [(0, .agg x.cells), (1, .ptr 0 0 0 0)], [(0, tkB t)]⟩
  repeat (first | refine N.seq ?_ | refine N.blk ?_ | refine W.seq rfl ?_ | refine W.block rfl ?_ | refine W.skip rfl ?_ | refine W.ret rfl ?_ | refine N.nil ?_ | refine N.loop ?_ | refine W.exit rfl ?_ | refine X.seq ?_ | refine X.loop ?_ | refine X.hit ?_ | refine X.pass (by decide) ?_ | refine W.condT rfl (by rfl) ?_ | refine W.condF rfl (by rfl) ?_ | refine W.region tm n_specs_ok rfl (by conv => lhs; simp [tkB]) fun _ => ?_ | refine W.regionD tm n_specs_ok rfl (by conv => lhs; simp [tkB]) (by conv => lhs; simp) (by kernel_rfl) fun _ => ?_)
  simp only [pq, tkB, Bool.false_eq_true, if_false]
  first | exact retE2_ok false (by conv => lhs; simp [retE2, frqT, frqV, frqVs, frqL, frq1, reachE, blkRefs, outE, nodupE, firstE, seqO, expB2, expF, refsB, refsL, AV.refs, AV.ren, renL, renB, List.range, List.range.loop, resVs, resV, pack]) | fail "no return here"
/-! ### Finding -/
def fidx (p : Tk → Bool) (l : List Tk) : Int := match l.findIdx? p with
  | some i => (i : Nat)
  | none => -1
theorem fidx_hit {p : Tk → Bool} {l : List Tk} {k : Nat} {x : Tk} (h : ∀ i y, i < k → l[i]? = some y → p y = false) (hx : l[k]? = some x) (hp : p x = true) : fidx p l = (k : Nat) := by
  have hk := (List.getElem?_eq_some_iff.1 hx).1
  have : l.findIdx? p = some k := by
    rw [List.findIdx?_eq_some_iff_getElem]
    refine ⟨hk, ?_, fun j hj => ?_⟩
    · rw [List.getElem?_eq_getElem hk] at hx; cases hx; exact hp
    · have := h j _ hj (List.getElem?_eq_getElem (by omega)); simp [this]
  simp [fidx, this]
theorem fidx_none {p : Tk → Bool} {l : List Tk} (h : ∀ i y, i < l.length → l[i]? = some y → p y = false) : fidx p l = -1 := by
  have : l.findIdx? p = none := by
    rw [List.findIdx?_eq_none_iff]
    intro x hx
    obtain ⟨i, hi, rfl⟩ := List.mem_iff_getElem.1 hx
    exact h i _ hi (List.getElem?_eq_getElem hi)
  simp [fidx, this]
def tksB (l : List Tk) : ABlk := { gen := 0, kind := 2, elem := 27, size := 3, inl := true, rows := l.map Tk.cells }
theorem tksB_inj {x y : List Tk} (h : tksB x = tksB y) : x = y := by
  simp only [tksB, ABlk.mk.injEq, true_and] at h
  exact map_inj Tk.inj h
def encIx (x : Bool × List Tk × Tk) : List AV × List ABlk := ([.sl 0 0 0 x.2.1.length, .fn (.func (if x.1 then 24 else 26)) [] [.ptr 1 0 0 0]], [tksB x.2.1, tkB x.2.2])
theorem encIx_inj {β : Type} {f : Bool × List Tk × Tk → β} : ∀ x y, encIx x = encIx y → f x = f y := fun x y h => by
  obtain ⟨g, l, t⟩ := x
  obtain ⟨g', l', t'⟩ := y
  simp only [encIx, Prod.mk.injEq, List.cons.injEq, AV.fn.injEq, Fn.func.injEq, and_true] at h
  obtain ⟨⟨_, h1⟩, h2, h3⟩ := h
  have hg : g = g' := by cases g <;> cases g' <;> simp at h1 <;> rfl
  rw [hg, tksB_inj h2, tkB_inj h3]
noncomputable def ixS : SpecFn := mkS2 encIx fun x => (.int .i64 (fidx (pq x.1 x.2.2) x.2.1), [tksB x.2.1, tkB x.2.2])
noncomputable def i_specs : NL Spec := [(24, ⟨3, clS true⟩), (26, ⟨3, clS false⟩)]
theorem i_specs_ok : ∀ p ∈ i_specs, FnC Try.prog p.1 p.2.fn := by
  simp only [i_specs, List.mem_cons, List.not_mem_nil, or_false]
  rintro p (rfl | rfl)
  · exact note1_ok
  · exact note2_ok
attribute [local simp] i_specs clS_eq
theorem index_ok : FnC Try.prog 23 ixS := by
  refine FnC.walkB 23 (fn := Try.f23) Try.func23 rfl (by kernel_rfl) (fun x b hb => by simp [encIx] at hb; rcases hb with rfl | rfl <;> rfl) fun x => ?_
  obtain ⟨g, l, t⟩ := x
  change W _ (RetB _ _ 2 _ _) _ _ ⟨19, [(0, .sl 0 0 0 l.length), (1, .fn (.func (if g then 24 else 26)) [] [.ptr 1 0 0 0])], [(0, tksB l), (1, tkB t)]⟩
  repeat (first | refine N.seq ?_ | refine N.blk ?_ | refine W.seq rfl ?_ | refine W.block rfl ?_ | refine W.skip rfl ?_ | refine W.ret rfl ?_ | refine N.nil ?_ | refine N.loop ?_ | refine W.exit rfl ?_ | refine X.seq ?_ | refine X.loop ?_ | refine X.hit ?_ | refine X.pass (by decide) ?_)
  refine W.region tm i_specs_ok rfl (by conv => lhs; simp) fun _ => ?_
  repeat (first | refine N.seq ?_ | refine N.blk ?_ | refine W.seq rfl ?_ | refine W.block rfl ?_ | refine W.skip rfl ?_ | refine W.ret rfl ?_ | refine N.nil ?_ | refine N.loop ?_ | refine W.exit rfl ?_ | refine X.seq ?_ | refine X.loop ?_ | refine X.hit ?_ | refine X.pass (by decide) ?_)
  refine W.region tm i_specs_ok rfl (by conv => lhs; simp [tksB, tkB]) fun hA => ?_
  have hl : l.length ≤ maxLen := by simpa using hA
  repeat (first | refine N.seq ?_ | refine N.blk ?_ | refine W.seq rfl ?_ | refine W.block rfl ?_ | refine W.skip rfl ?_ | refine W.ret rfl ?_ | refine N.nil ?_ | refine N.loop ?_ | refine W.exit rfl ?_ | refine X.seq ?_ | refine X.loop ?_ | refine X.hit ?_ | refine X.pass (by decide) ?_)
  refine W.loop rfl (ι := { k : Nat // k ≤ l.length ∧ ∀ i y, i < k → l[i]? = some y → pq g t y = false }) (fun k => ⟨19, [(0, .sl 0 0 0 l.length), (1, .fn (.func (if g then 24 else 26)) [] [.ptr 1 0 0 0]), (7, .int .i64 l.length), (8, .int .i64 k.1)], [(0, tksB l), (1, tkB t)]⟩) (fun k => l.length - k.1)
    ⟨0, by omega, fun i y h => by omega⟩ (AS.le_of rfl ⟨rfl, rfl, rfl, rfl, trivial⟩ (fun _ => rfl)) ?_
  rintro ⟨k, hk, hp⟩
  dsimp only
  by_cases hk2 : k = l.length
  · subst hk2
    have q : ¬ (l.length : Int) < l.length := by omega
    repeat (first | refine N.seq ?_ | refine N.blk ?_ | refine W.seq rfl ?_ | refine W.block rfl ?_ | refine W.skip rfl ?_ | refine W.ret rfl ?_ | refine N.nil ?_ | refine N.loop ?_ | refine W.exit rfl ?_ | refine X.seq ?_ | refine X.loop ?_ | refine X.hit ?_ | refine X.pass (by decide) ?_ | refine W.condT rfl (by rfl) ?_ | refine W.condF rfl (by rfl) ?_ | refine W.region tm i_specs_ok rfl (by conv => lhs; simp [q, tksB, tkB]) fun _ => ?_ | refine W.regionD tm i_specs_ok rfl (by conv => lhs; simp [q, tksB, tkB]) (by conv => lhs; simp) (by kernel_rfl) fun _ => ?_)
    simp only [fidx_none (p := pq g t) (l := l) (fun i y h => hp i y h), tksB, tkB]
    first | exact retE2_ok false (by conv => lhs; simp [retE2, frqT, frqV, frqVs, frqL, frq1, reachE, blkRefs, outE, nodupE, firstE, seqO, expB2, expF, refsB, refsL, AV.refs, AV.ren, renL, renB, List.range, List.range.loop, resVs, resV, pack]) | fail "no return here"
  · have hlt : k < l.length := by omega
    have q : (k : Int) < l.length := by omega
    have q2 : ¬ l.length ≤ k := by omega
    obtain ⟨x, hx⟩ := get_lt hlt
    have hw := w64_succ hlt hl
    rcases Bool.eq_false_or_eq_true (pq g t x) with hq | hq
    · cases g
      all_goals
        repeat (first | refine N.seq ?_ | refine N.blk ?_ | refine W.seq rfl ?_ | refine W.block rfl ?_ | refine W.skip rfl ?_ | refine W.ret rfl ?_ | refine N.nil ?_ | refine N.loop ?_ | refine W.exit rfl ?_ | refine X.seq ?_ | refine X.loop ?_ | refine X.hit ?_ | refine X.pass (by decide) ?_ | refine W.condT rfl (by rfl) ?_ | refine W.condF rfl (by rfl) ?_ | refine W.region tm i_specs_ok rfl (by conv => lhs; simp [q, q2, hx, tksB, tkB, hq]) fun _ => ?_ | refine W.regionD tm i_specs_ok rfl (by conv => lhs; simp [q, q2, hx, tksB, tkB, hq]) (by conv => lhs; simp) (by kernel_rfl) fun _ => ?_)
        simp only [fidx_hit hp hx hq, tksB, tkB]
        first | exact retE2_ok false (by conv => lhs; simp [retE2, frqT, frqV, frqVs, frqL, frq1, reachE, blkRefs, outE, nodupE, firstE, seqO, expB2, expF, refsB, refsL, AV.refs, AV.ren, renL, renB, List.range, List.range.loop, resVs, resV, pack]) | fail "no return here"
    · cases g
      all_goals
        repeat (first | refine N.seq ?_ | refine N.blk ?_ | refine W.seq rfl ?_ | refine W.block rfl ?_ | refine W.skip rfl ?_ | refine W.ret rfl ?_ | refine N.nil ?_ | refine N.loop ?_ | refine W.exit rfl ?_ | refine X.seq ?_ | refine X.loop ?_ | refine X.hit ?_ | refine X.pass (by decide) ?_ | refine W.condT rfl (by rfl) ?_ | refine W.condF rfl (by rfl) ?_ | refine W.region tm i_specs_ok rfl (by conv => lhs; simp [q, q2, hx, tksB, tkB, hq, hw]) fun _ => ?_ | refine W.regionD tm i_specs_ok rfl (by conv => lhs; simp [q, q2, hx, tksB, tkB, hq, hw]) (by conv => lhs; simp) (by kernel_rfl) fun _ => ?_)
        refine ⟨⟨k + 1, by omega, fun i y hi hy => ?_⟩, by dsimp only; omega, AS.le_of rfl ⟨rfl, rfl, rfl, rfl, trivial⟩ (fun id => by simp [tksB, tkB])⟩
        by_cases e : i = k
        · subst e; rw [hx] at hy; cases hy; exact hq
        · exact hp i y (by omega) hy
end Go.Abs.Gr
