/- Where a place is, and which process is elsewhere. Conditions: none. -/
import Derived.Test.YtkalkcgbecbgpaaPo4
import Derived.Test.YtkalkcgbecbgpaaPo1
namespace Go.Abs.Po
open Go Go.Proofs Go.Abs
set_option maxRecDepth 100000
set_option maxHeartbeats 4000000
set_option linter.unusedSimpArgs false
set_option linter.unusedVariables false
noncomputable def fi_specs : NL Spec := [(72, ⟨3, ixS⟩)]
theorem fi_specs_ok : ∀ p ∈ fi_specs, FnC Try.prog p.1 p.2.fn := by
  simp only [fi_specs, List.mem_cons, List.not_mem_nil, or_false]
  rintro p rfl
  exact index_ok
attribute [local simp] runL stepA execA_eq skipA run_ret run_fail run_get run_put run_asm num lk st lk_st putA AS.ev ofValue ofFlat mkv splice fieldAddrA buildA fillA runF gdst pickA unOpA extractA resVs resV pack frzT inlT inlV frzV frzVs frzL frz1 newId AV.cellsOf AV.flat AV.flat2 specOf loadA_runR capA copyA copyTo srcA sliceCA slice3A appendZA extA AV.place lenCA clearA clearTo expG expB3 List.zipWith renL fF handB renB AV.ren backF backL idsOf freshIds refsL refsB AV.refs List.range List.range.loop placesA sliceRows rowsOf convertA sliceArrA sliceA bndA nilCheckA arrayAtA mmA lookupA keyOf keyOK findA keyEqA foundA makeMapA mapUpdateA appendA rowsA indexA partA fieldA retE2 frqT frqV frqVs frqL frq1 reachE blkRefs outE nodupE firstE seqO expB2 expF instA take_len_map List.findIdx?_cons List.findIdx?_nil fi_specs
def fnd (l : List Pl) (id : Int) : Int × Bool := if 0 ≤ fidx (pk true id) l then (fidx (pk true id) l, true) else if 0 ≤ fidx (pk false id) l then (fidx (pk false id) l, false) else (l.length, false)
inductive Fx
  | a (l : PL) (k : Int)
  | b (l : PL) (k : Int)
def encFx : Fx → List AV × List ABlk
  | .a l k => ([.list 2 (l.1.map Pl.cells), .int .u64 k, .fn (.func 57) [] []], [])
  | .b l k => ([.sl 0 0 0 l.1.length, .int .u64 k, .fn (.func 57) [] []], [pB l.1])
def resFx : Fx → AV × List ABlk
  | .a l k => (.tup [.int .i64 (fnd l.1 k).1, .bool (fnd l.1 k).2], [])
  | .b l k => (.tup [.int .i64 (fnd l.1 k).1, .bool (fnd l.1 k).2], [pB l.1])
theorem encFx_inj : ∀ x y, encFx x = encFx y → resFx x = resFx y := fun x y h => by
  cases x with
  | a l k => cases y with
    | a l' k' =>
      simp only [encFx, Prod.mk.injEq, List.cons.injEq, AV.list.injEq, AV.int.injEq, and_true, true_and] at h
      obtain ⟨h1, h2⟩ := h
      rw [h2, Subtype.ext (map_inj Pl.inj h1)]
    | b l' k' => simp [encFx] at h
  | b l k => cases y with
    | a l' k' => simp [encFx] at h
    | b l' k' =>
      simp only [encFx, Prod.mk.injEq, List.cons.injEq, AV.int.injEq, and_true, true_and] at h
      obtain ⟨⟨_, h2⟩, h1⟩ := h
      rw [h2, Subtype.ext (pB_inj h1)]
noncomputable def fndS : SpecFn := mkS2 encFx resFx
theorem fndS_a (l : List Pl) (h : l.length ≤ 200) (k : Int) : fndS [.list 2 (l.map Pl.cells), .int .u64 k, .fn (.func 57) [] []] [] = some (.tup [.int .i64 (fnd l k).1, .bool (fnd l k).2], []) := mkS2_eq (enc := encFx) encFx_inj (.a ⟨l, h⟩ k)
theorem fndS_b (l : List Pl) (h : l.length ≤ 200) (k : Int) : fndS [.sl 0 0 0 l.length, .int .u64 k, .fn (.func 57) [] []] [{ gen := 0, kind := 2, elem := 57, size := 2, inl := true, rows := l.map Pl.cells }] = some (.tup [.int .i64 (fnd l k).1, .bool (fnd l k).2], [pB l]) := mkS2_eq (enc := encFx) encFx_inj (.b ⟨l, h⟩ k)
theorem find_ok : FnC Try.prog 56 fndS := by
  refine FnC.walkB 56 (fn := Try.f56) Try.func56 rfl (by kernel_rfl) (fun x b hb => by
    cases x <;> simp [encFx] at hb
    rw [hb]; rfl) fun x => ?_
  cases x with
  | a l k =>
    obtain ⟨l, hl⟩ := l
    change W _ (RetB _ _ 0 (.tup [.int .i64 (fnd l k).1, .bool (fnd l k).2]) []) _ _ ⟨24, [(0, .list 2 (l.map Pl.cells)), (1, .int .u64 k), (2, .fn (.func 57) [] [])], []⟩
    have i1 := ixS_a true l hl k
    have i2 := ixS_a false l hl k
    simp only [fc, fnB, cB, if_true, Bool.false_eq_true, if_false] at i1 i2
    unfold fnd
    by_cases h1 : 0 ≤ fidx (pk true k) l
    · rw [if_pos h1]
      repeat (first | refine N.seq ?_ | refine N.blk ?_ | refine W.seq rfl ?_ | refine W.block rfl ?_ | refine W.skip rfl ?_ | refine W.ret rfl ?_ | refine N.nil ?_ | refine N.loop ?_ | refine W.exit rfl ?_ | refine X.seq ?_ | refine X.loop ?_ | refine X.hit ?_ | refine X.pass (by decide) ?_ | refine W.condT rfl (by rfl) ?_ | refine W.condF rfl (by rfl) ?_ | refine W.region tm fi_specs_ok rfl (by conv => lhs; simp [i1, h1]) fun _ => ?_ | refine W.regionD tm fi_specs_ok rfl (by conv => lhs; simp [i1, h1]) (by conv => lhs; simp) (by kernel_rfl) fun _ => ?_)
      first | exact retE2_ok false (by conv => lhs; simp [retE2, frqT, frqV, frqVs, frqL, frq1, reachE, blkRefs, outE, nodupE, firstE, seqO, expB2, expF, refsB, refsL, AV.refs, AV.ren, renL, renB, List.range, List.range.loop, resVs, resV, pack]) | fail "no return here"
    · rw [if_neg h1]
      by_cases h2 : 0 ≤ fidx (pk false k) l
      · rw [if_pos h2]
        repeat (first | refine N.seq ?_ | refine N.blk ?_ | refine W.seq rfl ?_ | refine W.block rfl ?_ | refine W.skip rfl ?_ | refine W.ret rfl ?_ | refine N.nil ?_ | refine N.loop ?_ | refine W.exit rfl ?_ | refine X.seq ?_ | refine X.loop ?_ | refine X.hit ?_ | refine X.pass (by decide) ?_ | refine W.condT rfl (by rfl) ?_ | refine W.condF rfl (by rfl) ?_ | refine W.region tm fi_specs_ok rfl (by conv => lhs; simp [i1, i2, h1, h2]) fun _ => ?_ | refine W.regionD tm fi_specs_ok rfl (by conv => lhs; simp [i1, i2, h1, h2]) (by conv => lhs; simp) (by kernel_rfl) fun _ => ?_)
        first | exact retE2_ok false (by conv => lhs; simp [retE2, frqT, frqV, frqVs, frqL, frq1, reachE, blkRefs, outE, nodupE, firstE, seqO, expB2, expF, refsB, refsL, AV.refs, AV.ren, renL, renB, List.range, List.range.loop, resVs, resV, pack]) | fail "no return here"
      · rw [if_neg h2]
        repeat (first | refine N.seq ?_ | refine N.blk ?_ | refine W.seq rfl ?_ | refine W.block rfl ?_ | refine W.skip rfl ?_ | refine W.ret rfl ?_ | refine N.nil ?_ | refine N.loop ?_ | refine W.exit rfl ?_ | refine X.seq ?_ | refine X.loop ?_ | refine X.hit ?_ | refine X.pass (by decide) ?_ | refine W.condT rfl (by rfl) ?_ | refine W.condF rfl (by rfl) ?_ | refine W.region tm fi_specs_ok rfl (by conv => lhs; simp [i1, i2, h1, h2]) fun _ => ?_ | refine W.regionD tm fi_specs_ok rfl (by conv => lhs; simp [i1, i2, h1, h2]) (by conv => lhs; simp) (by kernel_rfl) fun _ => ?_)
        first | exact retE2_ok false (by conv => lhs; simp [retE2, frqT, frqV, frqVs, frqL, frq1, reachE, blkRefs, outE, nodupE, firstE, seqO, expB2, expF, refsB, refsL, AV.refs, AV.ren, renL, renB, List.range, List.range.loop, resVs, resV, pack]) | fail "no return here"
  | b l k =>
    obtain ⟨l, hl⟩ := l
    change W _ (RetB _ _ 1 (.tup [.int .i64 (fnd l k).1, .bool (fnd l k).2]) [pB l]) _ _ ⟨24, [(0, .sl 0 0 0 l.length), (1, .int .u64 k), (2, .fn (.func 57) [] [])], [(0, pB l)]⟩
    have i1 := ixS_b true l hl k
    have i2 := ixS_b false l hl k
    simp only [fc, fnB, cB, pB, if_true, Bool.false_eq_true, if_false] at i1 i2
    unfold fnd
    by_cases h1 : 0 ≤ fidx (pk true k) l
    · rw [if_pos h1]
      repeat (first | refine N.seq ?_ | refine N.blk ?_ | refine W.seq rfl ?_ | refine W.block rfl ?_ | refine W.skip rfl ?_ | refine W.ret rfl ?_ | refine N.nil ?_ | refine N.loop ?_ | refine W.exit rfl ?_ | refine X.seq ?_ | refine X.loop ?_ | refine X.hit ?_ | refine X.pass (by decide) ?_ | refine W.condT rfl (by rfl) ?_ | refine W.condF rfl (by rfl) ?_ | refine W.region tm fi_specs_ok rfl (by conv => lhs; simp [i1, h1, pB]) fun _ => ?_ | refine W.regionD tm fi_specs_ok rfl (by conv => lhs; simp [i1, h1, pB]) (by conv => lhs; simp) (by kernel_rfl) fun _ => ?_)
      simp only [pB]
      first | exact retE2_ok false (by conv => lhs; simp [retE2, frqT, frqV, frqVs, frqL, frq1, reachE, blkRefs, outE, nodupE, firstE, seqO, expB2, expF, refsB, refsL, AV.refs, AV.ren, renL, renB, List.range, List.range.loop, resVs, resV, pack]) | fail "no return here"
    · rw [if_neg h1]
      by_cases h2 : 0 ≤ fidx (pk false k) l
      · rw [if_pos h2]
        repeat (first | refine N.seq ?_ | refine N.blk ?_ | refine W.seq rfl ?_ | refine W.block rfl ?_ | refine W.skip rfl ?_ | refine W.ret rfl ?_ | refine N.nil ?_ | refine N.loop ?_ | refine W.exit rfl ?_ | refine X.seq ?_ | refine X.loop ?_ | refine X.hit ?_ | refine X.pass (by decide) ?_ | refine W.condT rfl (by rfl) ?_ | refine W.condF rfl (by rfl) ?_ | refine W.region tm fi_specs_ok rfl (by conv => lhs; simp [i1, i2, h1, h2, pB]) fun _ => ?_ | refine W.regionD tm fi_specs_ok rfl (by conv => lhs; simp [i1, i2, h1, h2, pB]) (by conv => lhs; simp) (by kernel_rfl) fun _ => ?_)
        simp only [pB]
        first | exact retE2_ok false (by conv => lhs; simp [retE2, frqT, frqV, frqVs, frqL, frq1, reachE, blkRefs, outE, nodupE, firstE, seqO, expB2, expF, refsB, refsL, AV.refs, AV.ren, renL, renB, List.range, List.range.loop, resVs, resV, pack]) | fail "no return here"
      · rw [if_neg h2]
        repeat (first | refine N.seq ?_ | refine N.blk ?_ | refine W.seq rfl ?_ | refine W.block rfl ?_ | refine W.skip rfl ?_ | refine W.ret rfl ?_ | refine N.nil ?_ | refine N.loop ?_ | refine W.exit rfl ?_ | refine X.seq ?_ | refine X.loop ?_ | refine X.hit ?_ | refine X.pass (by decide) ?_ | refine W.condT rfl (by rfl) ?_ | refine W.condF rfl (by rfl) ?_ | refine W.region tm fi_specs_ok rfl (by conv => lhs; simp [i1, i2, h1, h2, pB]) fun _ => ?_ | refine W.regionD tm fi_specs_ok rfl (by conv => lhs; simp [i1, i2, h1, h2, pB]) (by conv => lhs; simp) (by kernel_rfl) fun _ => ?_)
        simp only [pB]
        first | exact retE2_ok false (by conv => lhs; simp [retE2, frqT, frqV, frqVs, frqL, frq1, reachE, blkRefs, outE, nodupE, firstE, seqO, expB2, expF, refsB, refsL, AV.refs, AV.ren, renL, renB, List.range, List.range.loop, resVs, resV, pack]) | fail "no return here"
/-! ### A place -/
theorem plc_fnd (l : List Pl) (id : Int) : (fidx (pk true id) l = -1 ∧ plc l id = (0, false)) ∨ ∃ (k : Nat) (x : Pl), fidx (pk true id) l = k ∧ l[k]? = some x ∧ plc l id = (x.n, true) := by
  have h0 : (∀ (i : Nat) y, l[i]? = some y → pk true id y = false) → plc l id = (0, false) := by
    induction l with
    | nil => intro _; rfl
    | cons a r ih =>
      intro h
      have ha : a.p ≠ id := by simpa [pk] using h 0 a rfl
      simp only [plc, if_neg ha]
      exact ih fun i y hy => h (i + 1) y (by simpa using hy)
  have h1 : ∀ (k : Nat) (x : Pl), l[k]? = some x → pk true id x = true → (∀ i y, i < k → l[i]? = some y → pk true id y = false) → plc l id = (x.n, true) := by
    clear h0
    induction l with
    | nil => intro k x hx; simp at hx
    | cons a r ih =>
      intro k x hx hp h
      cases k with
      | zero =>
        simp only [List.getElem?_cons_zero, Option.some.injEq] at hx
        subst hx
        have : a.p = id := by simpa [pk] using hp
        simp [plc, this]
      | succ k =>
        have ha : a.p ≠ id := by simpa [pk] using h 0 a (by omega) rfl
        simp only [plc, if_neg ha]
        exact ih k x (by simpa using hx) hp fun i y hi hy => h (i + 1) y (by omega) (by simpa using hy)
  rcases fidx_cases (pk true id) l with ⟨h, h'⟩ | ⟨k, x, h, hx, hp, hb⟩
  · exact .inl ⟨h, h0 h'⟩
  · exact .inr ⟨k, x, h, hx, h1 k x hx hp hb⟩
noncomputable def pl_specs : NL Spec := [(56, ⟨3, fndS⟩)]
theorem pl_specs_ok : ∀ p ∈ pl_specs, FnC Try.prog p.1 p.2.fn := by
  simp only [pl_specs, List.mem_cons, List.not_mem_nil, or_false]
  rintro p rfl
  exact find_ok
attribute [local simp] pl_specs
noncomputable def plcS : SpecFn := mkS encVI fun x => (.tup [.int .i64 (plc x.1.pl x.2).1, .bool (plc x.1.pl x.2).2], [])
theorem plcS_eq (view : Int) (nodes : List Int) (P : AV) (pl : List Pl) (id : Int) (hP : IsP P pl) (hn : nodes.length ≤ 8) (hl : pl.length ≤ 200) :
    plcS [.agg [.int .i64 view, .list 1 (nodes.map ic), .nils, P, .nils, .nils], .int .u64 id] [] = some (.tup [.int .i64 (plc pl id).1, .bool (plc pl id).2], []) :=
  mkS_eq (enc := encVI) encVI_inj (⟨view, nodes, P, pl, hP, hn, hl⟩, id)
theorem plc_ok : FnC Try.prog 35 plcS := by
  refine FnC.walk 35 (fn := Try.f35) Try.func35 rfl (by kernel_rfl) fun x => ?_
  obtain ⟨⟨view, nodes, P, pl, hP, hn, hl⟩, id⟩ := x
  dsimp only
  refine W.weak (σ' := ⟨23, [(0, .agg (vA view nodes (.list 2 (pl.map Pl.cells)))), (1, .int .u64 id)], []⟩) (le_head (vA_weak hP.weak)) ?_
  clear hP P
  have hf := fndS_a pl hl id
  rcases plc_fnd pl id with ⟨h1, h2⟩ | ⟨k, x, h1, hx, h2⟩
  · have h3 : (fnd pl id).2 = false := by unfold fnd; rw [h1]; simp; split <;> rfl
    rw [h3] at hf
    repeat (first | refine N.seq ?_ | refine N.blk ?_ | refine W.seq rfl ?_ | refine W.block rfl ?_ | refine W.skip rfl ?_ | refine W.ret rfl ?_ | refine N.nil ?_ | refine N.loop ?_ | refine W.exit rfl ?_ | refine X.seq ?_ | refine X.loop ?_ | refine X.hit ?_ | refine X.pass (by decide) ?_ | refine W.condT rfl (by rfl) ?_ | refine W.condF rfl (by rfl) ?_ | refine W.region tm pl_specs_ok rfl (by conv => lhs; simp [vA, hf]) fun _ => ?_ | refine W.regionD tm pl_specs_ok rfl (by conv => lhs; simp [vA, hf]) (by conv => lhs; simp) (by kernel_rfl) fun _ => ?_)
    simp only [h2]
    first | exact Ret.dataR rfl (by conv => lhs; simp) (by conv => lhs; simp) (by first | rfl | simp [inlT, inlV]) | fail "no return here"
  · have h3 : fnd pl id = ((k : Int), true) := by unfold fnd; rw [h1]; simp
    rw [h3] at hf
    have hk := (List.getElem?_eq_some_iff.1 hx).1
    have q1 : (k : Int) < pl.length := by omega
    have q2 : ¬ pl.length ≤ k := by omega
    repeat (first | refine N.seq ?_ | refine N.blk ?_ | refine W.seq rfl ?_ | refine W.block rfl ?_ | refine W.skip rfl ?_ | refine W.ret rfl ?_ | refine N.nil ?_ | refine N.loop ?_ | refine W.exit rfl ?_ | refine X.seq ?_ | refine X.loop ?_ | refine X.hit ?_ | refine X.pass (by decide) ?_ | refine W.condT rfl (by rfl) ?_ | refine W.condF rfl (by rfl) ?_ | refine W.region tm pl_specs_ok rfl (by conv => lhs; simp [vA, hf, q1, q2, hx, Pl.cells]) fun _ => ?_ | refine W.regionD tm pl_specs_ok rfl (by conv => lhs; simp [vA, hf, q1, q2, hx, Pl.cells]) (by conv => lhs; simp) (by kernel_rfl) fun _ => ?_)
    simp only [h2]
    first | exact Ret.dataR rfl (by conv => lhs; simp) (by conv => lhs; simp) (by first | rfl | simp [inlT, inlV]) | fail "no return here"
/-! ### Whether a process is elsewhere -/
def vB0 (view : Int) (nodes : List Int) (P : AV) : ABlk := { gen := 0, kind := 2, elem := 38, size := 6, inl := false, rows := [vA view nodes P] }
def ldB (x : Ld) : ABlk := { gen := 0, kind := 2, elem := 29, size := 3, inl := false, rows := [x.cells] }
theorem ldB_inj {x y : Ld} (h : ldB x = ldB y) : x = y := by
  simp only [ldB, ABlk.mk.injEq, List.cons.injEq, true_and, and_true] at h
  exact Ld.inj _ _ h
structure El where
  id : Int
  v : Vt
  ld : Ld
def encEl (x : El) : List AV × List ABlk := ([.int .u64 x.id, .ptr 0 0 0 0, .ptr 1 0 0 0], [vB0 x.v.view x.v.nodes x.v.P, ldB x.ld])
theorem encEl_inj {β : Type} {f : El → β} : ∀ x y, encEl x = encEl y → f x = f y := fun x y h => by
  obtain ⟨id, v, ld⟩ := x
  obtain ⟨id', v', ld'⟩ := y
  simp only [encEl, Prod.mk.injEq, List.cons.injEq, AV.int.injEq, true_and, and_true] at h
  obtain ⟨rfl, h1, h2⟩ := h
  have := ldB_inj h2
  subst this
  have : v = v' := Vt.inj _ _ (by
    simp only [vB0, ABlk.mk.injEq, List.cons.injEq, true_and, and_true] at h1
    simp only [Vt.av, h1])
  subst this
  rfl
def els (pl : List Pl) (node id : Int) : Bool := !(plc pl id).2 || ((plc pl id).1 != node)
noncomputable def elS : SpecFn := mkS2 encEl fun x => (.bool (els x.v.pl x.ld.node x.id), [vB0 x.v.view x.v.nodes x.v.P, ldB x.ld])
theorem elS_eq (id view : Int) (nodes : List Int) (P : AV) (pl : List Pl) (ld : Ld) (hP : IsP P pl) (hn : nodes.length ≤ 8) (hl : pl.length ≤ 200) :
    elS [.int .u64 id, .ptr 0 0 0 0, .ptr 1 0 0 0] [{ gen := 0, kind := 2, elem := 38, size := 6, inl := false, rows := [[.int .i64 view, .list 1 (nodes.map ic), .nils, P, .nils, .nils]] }, { gen := 0, kind := 2, elem := 29, size := 3, inl := false, rows := [[.int .i64 ld.node, .int .i64 ld.now, .int .i64 ld.avg]] }] =
    some (.bool (els pl ld.node id), [vB0 view nodes P, ldB ld]) := mkS2_eq (enc := encEl) encEl_inj ⟨id, ⟨view, nodes, P, pl, hP, hn, hl⟩, ld⟩
noncomputable def el_specs : NL Spec := [(35, ⟨1, plcS⟩)]
theorem el_specs_ok : ∀ p ∈ el_specs, FnC Try.prog p.1 p.2.fn := by
  simp only [el_specs, List.mem_cons, List.not_mem_nil, or_false]
  rintro p rfl
  exact plc_ok
attribute [local simp] el_specs
theorem els_ok : FnC Try.prog 34 elS := by
  refine FnC.walkB 34 (fn := Try.f34) Try.func34 rfl (by kernel_rfl) (fun x b hb => by simp [encEl] at hb; rcases hb with rfl | rfl <;> rfl) fun x => ?_
  obtain ⟨id, ⟨view, nodes, P, pl, hP, hn, hl⟩, ld⟩ := x
  have hp := plcS_eq view nodes P pl id hP hn hl
  change W _ (RetB _ _ 2 (.bool (els pl ld.node id)) [vB0 view nodes P, ldB ld]) _ _ ⟨21, [(0, .int .u64 id), (1, .ptr 0 0 0 0), (2, .ptr 1 0 0 0)], [(0, vB0 view nodes P), (1, ldB ld)]⟩
  unfold els
  rcases hP with rfl | ⟨rfl, rfl⟩
  all_goals
    cases h2 : (plc _ id).2 with
    | true =>
      rw [h2] at hp
      repeat (first | refine N.seq ?_ | refine N.blk ?_ | refine W.seq rfl ?_ | refine W.block rfl ?_ | refine W.skip rfl ?_ | refine W.ret rfl ?_ | refine N.nil ?_ | refine N.loop ?_ | refine W.exit rfl ?_ | refine X.seq ?_ | refine X.loop ?_ | refine X.hit ?_ | refine X.pass (by decide) ?_ | refine W.condT rfl (by rfl) ?_ | refine W.condF rfl (by rfl) ?_ | refine W.region tm el_specs_ok rfl (by conv => lhs; simp [vA, vB0, ldB, Ld.cells, hp]) fun _ => ?_ | refine W.regionD tm el_specs_ok rfl (by conv => lhs; simp [vA, vB0, ldB, Ld.cells, hp]) (by conv => lhs; simp) (by kernel_rfl) fun _ => ?_)
      simp only [vB0, ldB, vA, Ld.cells, Bool.not_true, Bool.false_or]
      first | exact retE2_ok false (by conv => lhs; simp [retE2, frqT, frqV, frqVs, frqL, frq1, reachE, blkRefs, outE, nodupE, firstE, seqO, expB2, expF, refsB, refsL, AV.refs, AV.ren, renL, renB, List.range, List.range.loop, resVs, resV, pack]) | fail "no return here"
    | false =>
      rw [h2] at hp
      repeat (first | refine N.seq ?_ | refine N.blk ?_ | refine W.seq rfl ?_ | refine W.block rfl ?_ | refine W.skip rfl ?_ | refine W.ret rfl ?_ | refine N.nil ?_ | refine N.loop ?_ | refine W.exit rfl ?_ | refine X.seq ?_ | refine X.loop ?_ | refine X.hit ?_ | refine X.pass (by decide) ?_ | refine W.condT rfl (by rfl) ?_ | refine W.condF rfl (by rfl) ?_ | refine W.region tm el_specs_ok rfl (by conv => lhs; simp [vA, vB0, ldB, Ld.cells, hp]) fun _ => ?_ | refine W.regionD tm el_specs_ok rfl (by conv => lhs; simp [vA, vB0, ldB, Ld.cells, hp]) (by conv => lhs; simp) (by kernel_rfl) fun _ => ?_)
      simp only [vB0, ldB, vA, Ld.cells, Bool.not_false, Bool.true_or]
      first | exact retE2_ok false (by conv => lhs; simp [retE2, frqT, frqV, frqVs, frqL, frq1, reachE, blkRefs, outE, nodupE, firstE, seqO, expB2, expF, refsB, refsL, AV.refs, AV.ren, renL, renB, List.range, List.range.loop, resVs, resV, pack]) | fail "no return here"
end Go.Abs.Po
namespace Go.Abs.Po
open Go Go.Proofs Go.Abs
set_option maxRecDepth 100000
set_option maxHeartbeats 4000000
set_option linter.unusedSimpArgs false
set_option linter.unusedVariables false
attribute [local simp] runL stepA execA_eq skipA run_ret run_fail run_get run_put run_asm num lk st lk_st putA AS.ev ofValue ofFlat mkv splice fieldAddrA buildA fillA runF gdst pickA unOpA extractA resVs resV pack frzT inlT inlV frzV frzVs frzL frz1 newId AV.cellsOf AV.flat AV.flat2 specOf loadA_runR capA copyA copyTo srcA sliceCA slice3A appendZA extA AV.place lenCA clearA clearTo expG expB3 List.zipWith renL fF handB renB AV.ren backF backL idsOf freshIds refsL refsB AV.refs List.range List.range.loop placesA sliceRows rowsOf convertA sliceArrA sliceA bndA nilCheckA arrayAtA mmA lookupA keyOf keyOK findA keyEqA foundA makeMapA mapUpdateA appendA rowsA indexA partA fieldA retE2 frqT frqV frqVs frqL frq1 reachE blkRefs outE nodupE firstE seqO expB2 expF instA take_len_map List.findIdx?_cons List.findIdx?_nil
/-! ### Terms -/
structure Tm where
  high : Int
  low : Int
  rounds : Int
def Tm.cells (t : Tm) : List AV := [.int .i64 t.high, .int .i64 t.low, .int .i64 t.rounds]
theorem Tm.inj (x y : Tm) (h : x.cells = y.cells) : x = y := by
  cases x; cases y
  simp only [Tm.cells, List.cons.injEq, AV.int.injEq, true_and, and_true] at h
  obtain ⟨rfl, rfl, rfl⟩ := h
  rfl
def Tm.ok (t : Tm) : Bool := decide (0 ≤ t.low) && (decide (t.low < t.high) && (decide (t.high ≤ 1048576) && (decide (1 ≤ t.rounds) && decide (t.rounds ≤ 256))))
noncomputable def okS : SpecFn := mkS (fun t : Tm => [.agg t.cells]) fun t => (.bool t.ok, [])
theorem okS_eq (t : Tm) : okS [.agg [.int .i64 t.high, .int .i64 t.low, .int .i64 t.rounds]] [] = some (.bool t.ok, []) := mkS_eq (enc := fun t : Tm => [.agg t.cells]) (fun x y h => by
  simp only [List.cons.injEq, AV.agg.injEq, and_true] at h
  rw [Tm.inj x y h]) t
theorem ok_ok : FnC Try.prog 33 okS := by
  refine FnC.walk 33 (fn := Try.f33) Try.func33 rfl (by kernel_rfl) fun t => ?_
  change W _ _ _ _ ⟨28, [(0, .agg t.cells)], []⟩
  unfold Tm.ok
  by_cases h1 : 0 ≤ t.low
  · by_cases h2 : t.low < t.high
    · by_cases h3 : t.high ≤ 1048576
      · by_cases h4 : 1 ≤ t.rounds
        · repeat (first | refine N.seq ?_ | refine N.blk ?_ | refine W.seq rfl ?_ | refine W.block rfl ?_ | refine W.skip rfl ?_ | refine W.ret rfl ?_ | refine N.nil ?_ | refine N.loop ?_ | refine W.exit rfl ?_ | refine X.seq ?_ | refine X.loop ?_ | refine X.hit ?_ | refine X.pass (by decide) ?_ | refine W.condT rfl (by rfl) ?_ | refine W.condF rfl (by rfl) ?_ | refine W.region tm no_specs rfl (by conv => lhs; simp [Tm.cells, h1, h2, h3, h4]) fun _ => ?_ | refine W.regionD tm no_specs rfl (by conv => lhs; simp [Tm.cells, h1, h2, h3, h4]) (by conv => lhs; simp) (by kernel_rfl) fun _ => ?_)
          simp only [h1, h2, h3, h4, decide_true, Bool.true_and]
          first | exact Ret.dataR rfl (by conv => lhs; simp) (by conv => lhs; simp) (by first | rfl | simp [inlT, inlV]) | fail "no return here"
        · repeat (first | refine N.seq ?_ | refine N.blk ?_ | refine W.seq rfl ?_ | refine W.block rfl ?_ | refine W.skip rfl ?_ | refine W.ret rfl ?_ | refine N.nil ?_ | refine N.loop ?_ | refine W.exit rfl ?_ | refine X.seq ?_ | refine X.loop ?_ | refine X.hit ?_ | refine X.pass (by decide) ?_ | refine W.condT rfl (by rfl) ?_ | refine W.condF rfl (by rfl) ?_ | refine W.region tm no_specs rfl (by conv => lhs; simp [Tm.cells, h1, h2, h3, h4]) fun _ => ?_ | refine W.regionD tm no_specs rfl (by conv => lhs; simp [Tm.cells, h1, h2, h3, h4]) (by conv => lhs; simp) (by kernel_rfl) fun _ => ?_)
          simp only [h1, h2, h3, h4, decide_true, decide_false, Bool.true_and, Bool.false_and]
          first | exact Ret.dataR rfl (by conv => lhs; simp) (by conv => lhs; simp) (by first | rfl | simp [inlT, inlV]) | fail "no return here"
      · repeat (first | refine N.seq ?_ | refine N.blk ?_ | refine W.seq rfl ?_ | refine W.block rfl ?_ | refine W.skip rfl ?_ | refine W.ret rfl ?_ | refine N.nil ?_ | refine N.loop ?_ | refine W.exit rfl ?_ | refine X.seq ?_ | refine X.loop ?_ | refine X.hit ?_ | refine X.pass (by decide) ?_ | refine W.condT rfl (by rfl) ?_ | refine W.condF rfl (by rfl) ?_ | refine W.region tm no_specs rfl (by conv => lhs; simp [Tm.cells, h1, h2, h3]) fun _ => ?_ | refine W.regionD tm no_specs rfl (by conv => lhs; simp [Tm.cells, h1, h2, h3]) (by conv => lhs; simp) (by kernel_rfl) fun _ => ?_)
        simp only [h1, h2, h3, decide_true, decide_false, Bool.true_and, Bool.false_and]
        first | exact Ret.dataR rfl (by conv => lhs; simp) (by conv => lhs; simp) (by first | rfl | simp [inlT, inlV]) | fail "no return here"
    · repeat (first | refine N.seq ?_ | refine N.blk ?_ | refine W.seq rfl ?_ | refine W.block rfl ?_ | refine W.skip rfl ?_ | refine W.ret rfl ?_ | refine N.nil ?_ | refine N.loop ?_ | refine W.exit rfl ?_ | refine X.seq ?_ | refine X.loop ?_ | refine X.hit ?_ | refine X.pass (by decide) ?_ | refine W.condT rfl (by rfl) ?_ | refine W.condF rfl (by rfl) ?_ | refine W.region tm no_specs rfl (by conv => lhs; simp [Tm.cells, h1, h2]) fun _ => ?_ | refine W.regionD tm no_specs rfl (by conv => lhs; simp [Tm.cells, h1, h2]) (by conv => lhs; simp) (by kernel_rfl) fun _ => ?_)
      simp only [h1, h2, decide_true, decide_false, Bool.true_and, Bool.false_and]
      first | exact Ret.dataR rfl (by conv => lhs; simp) (by conv => lhs; simp) (by first | rfl | simp [inlT, inlV]) | fail "no return here"
  · repeat (first | refine N.seq ?_ | refine N.blk ?_ | refine W.seq rfl ?_ | refine W.block rfl ?_ | refine W.skip rfl ?_ | refine W.ret rfl ?_ | refine N.nil ?_ | refine N.loop ?_ | refine W.exit rfl ?_ | refine X.seq ?_ | refine X.loop ?_ | refine X.hit ?_ | refine X.pass (by decide) ?_ | refine W.condT rfl (by rfl) ?_ | refine W.condF rfl (by rfl) ?_ | refine W.region tm no_specs rfl (by conv => lhs; simp [Tm.cells, h1]) fun _ => ?_ | refine W.regionD tm no_specs rfl (by conv => lhs; simp [Tm.cells, h1]) (by conv => lhs; simp) (by kernel_rfl) fun _ => ?_)
    simp only [h1, decide_false, Bool.false_and]
    first | exact Ret.dataR rfl (by conv => lhs; simp) (by conv => lhs; simp) (by first | rfl | simp [inlT, inlV]) | fail "no return here"
/-! ### Whether a member of a group is elsewhere -/
structure Gx where
  g : UL
  v : Vt
  ld : Ld
def encGx (x : Gx) : List AV × List ABlk := ([.list 1 (x.g.1.map uc), .fn (.func 34) [] [.ptr 0 0 0 0, .ptr 1 0 0 0]], [vB0 x.v.view x.v.nodes x.v.P, ldB x.ld])
theorem encGx_inj {β : Type} {f : Gx → β} : ∀ x y, encGx x = encGx y → f x = f y := fun x y h => by
  obtain ⟨g, v, ld⟩ := x
  obtain ⟨g', v', ld'⟩ := y
  simp only [encGx, Prod.mk.injEq, List.cons.injEq, AV.list.injEq, true_and, and_true] at h
  obtain ⟨h0, h1, h2⟩ := h
  have := ldB_inj h2
  subst this
  have : g = g' := Subtype.ext (map_inj uc_inj h0)
  subst this
  have : v = v' := Vt.inj _ _ (by
    simp only [vB0, ABlk.mk.injEq, List.cons.injEq, true_and, and_true] at h1
    simp only [Vt.av, h1])
  subst this
  rfl
noncomputable def iuS : SpecFn := mkS2 encGx fun x => (.int .i64 (fidx (els x.v.pl x.ld.node) x.g.1), [vB0 x.v.view x.v.nodes x.v.P, ldB x.ld])
theorem iuS_eq (g : List Int) (hg : g.length ≤ 400) (view : Int) (nodes : List Int) (P : AV) (pl : List Pl) (ld : Ld) (hP : IsP P pl) (hn : nodes.length ≤ 8) (hl : pl.length ≤ 200) :
    iuS [.list 1 (g.map uc), .fn (.func 34) [] [.ptr 0 0 0 0, .ptr 1 0 0 0]] [{ gen := 0, kind := 2, elem := 38, size := 6, inl := false, rows := [[.int .i64 view, .list 1 (nodes.map ic), .nils, P, .nils, .nils]] }, { gen := 0, kind := 2, elem := 29, size := 3, inl := false, rows := [[.int .i64 ld.node, .int .i64 ld.now, .int .i64 ld.avg]] }] =
    some (.int .i64 (fidx (els pl ld.node) g), [vB0 view nodes P, ldB ld]) := mkS2_eq (enc := encGx) encGx_inj ⟨⟨g, hg⟩, ⟨view, nodes, P, pl, hP, hn, hl⟩, ld⟩
noncomputable def iu_specs : NL Spec := [(34, ⟨3, elS⟩)]
theorem iu_specs_ok : ∀ p ∈ iu_specs, FnC Try.prog p.1 p.2.fn := by
  simp only [iu_specs, List.mem_cons, List.not_mem_nil, or_false]
  rintro p rfl
  exact els_ok
attribute [local simp] iu_specs
theorem iu_ok : FnC Try.prog 58 iuS := by
  refine FnC.walkB 58 (fn := Try.f58) Try.func58 rfl (by kernel_rfl) (fun x b hb => by simp [encGx] at hb; rcases hb with rfl | rfl <;> rfl) fun x => ?_
  obtain ⟨⟨l, hg⟩, ⟨view, nodes, P, pl, hP, hn, hl⟩, ld⟩ := x
  have he := fun id => elS_eq id view nodes P pl ld hP hn hl
  simp only [vB0, ldB, vA, Ld.cells] at he
  change W _ (RetB _ _ 2 (.int .i64 (fidx (els pl ld.node) l)) [vB0 view nodes P, ldB ld]) _ _ ⟨19, [(0, .list 1 (l.map uc)), (1, .fn (.func 34) [] [.ptr 0 0 0 0, .ptr 1 0 0 0])], [(0, vB0 view nodes P), (1, ldB ld)]⟩
  have hP0 := hP
  rcases hP0 with rfl | ⟨rfl, _⟩
  all_goals
    clear hP
    repeat (first | refine N.seq ?_ | refine N.blk ?_ | refine W.seq rfl ?_ | refine W.block rfl ?_ | refine W.skip rfl ?_ | refine W.ret rfl ?_ | refine N.nil ?_ | refine N.loop ?_ | refine W.exit rfl ?_ | refine X.seq ?_ | refine X.loop ?_ | refine X.hit ?_ | refine X.pass (by decide) ?_ | refine W.condT rfl (by rfl) ?_ | refine W.condF rfl (by rfl) ?_ | refine W.region tm iu_specs_ok rfl (by conv => lhs; simp [vA, vB0, ldB, Ld.cells]) fun _ => ?_ | refine W.regionD tm iu_specs_ok rfl (by conv => lhs; simp [vA, vB0, ldB, Ld.cells]) (by conv => lhs; simp) (by kernel_rfl) fun _ => ?_)
    refine W.loop rfl (ι := { j : Nat // j ≤ l.length ∧ ∀ i y, i < j → l[i]? = some y → els pl ld.node y = false }) (fun j => ⟨19, [(0, .list 1 (l.map uc)), (1, .fn (.func 34) [] [.ptr 0 0 0 0, .ptr 1 0 0 0]), (7, .int .i64 l.length), (8, .int .i64 j.1)], [(0, vB0 view nodes _), (1, ldB ld)]⟩) (fun j => l.length - j.1)
      ⟨0, by omega, fun i y h => by omega⟩ (AS.le_of rfl ⟨rfl, rfl, rfl, rfl, trivial⟩ (fun _ => rfl)) ?_
    rintro ⟨j, hj, hp⟩
    dsimp only
    by_cases hj2 : j = l.length
    · subst hj2
      have q : ¬ (l.length : Int) < l.length := by omega
      repeat (first | refine N.seq ?_ | refine N.blk ?_ | refine W.seq rfl ?_ | refine W.block rfl ?_ | refine W.skip rfl ?_ | refine W.ret rfl ?_ | refine N.nil ?_ | refine N.loop ?_ | refine W.exit rfl ?_ | refine X.seq ?_ | refine X.loop ?_ | refine X.hit ?_ | refine X.pass (by decide) ?_ | refine W.condT rfl (by rfl) ?_ | refine W.condF rfl (by rfl) ?_ | refine W.region tm iu_specs_ok rfl (by conv => lhs; simp [q, vA, vB0, ldB, Ld.cells]) fun _ => ?_ | refine W.regionD tm iu_specs_ok rfl (by conv => lhs; simp [q, vA, vB0, ldB, Ld.cells]) (by conv => lhs; simp) (by kernel_rfl) fun _ => ?_)
      simp only [fidx_none (p := els pl ld.node) (l := l) (fun i y h => hp i y h), vA, vB0, ldB, Ld.cells]
      first | exact retE2_ok false (by conv => lhs; simp [retE2, frqT, frqV, frqVs, frqL, frq1, reachE, blkRefs, outE, nodupE, firstE, seqO, expB2, expF, refsB, refsL, AV.refs, AV.ren, renL, renB, List.range, List.range.loop, resVs, resV, pack]) | fail "no return here"
    · have hlt : j < l.length := by omega
      have q : (j : Int) < l.length := by omega
      have q2 : ¬ l.length ≤ j := by omega
      obtain ⟨x, hx⟩ := get_lt hlt
      have hw := w64_succ hlt (cap4 hg)
      have hex := he x
      rcases Bool.eq_false_or_eq_true (els pl ld.node x) with hq | hq
      · rw [hq] at hex
        repeat (first | refine N.seq ?_ | refine N.blk ?_ | refine W.seq rfl ?_ | refine W.block rfl ?_ | refine W.skip rfl ?_ | refine W.ret rfl ?_ | refine N.nil ?_ | refine N.loop ?_ | refine W.exit rfl ?_ | refine X.seq ?_ | refine X.loop ?_ | refine X.hit ?_ | refine X.pass (by decide) ?_ | refine W.condT rfl (by rfl) ?_ | refine W.condF rfl (by rfl) ?_ | refine W.region tm iu_specs_ok rfl (by conv => lhs; simp [q, q2, hx, vA, vB0, ldB, Ld.cells, hex, uc]) fun _ => ?_ | refine W.regionD tm iu_specs_ok rfl (by conv => lhs; simp [q, q2, hx, vA, vB0, ldB, Ld.cells, hex, uc]) (by conv => lhs; simp) (by kernel_rfl) fun _ => ?_)
        simp only [fidx_hit hp hx hq, vA, vB0, ldB, Ld.cells]
        first | exact retE2_ok false (by conv => lhs; simp [retE2, frqT, frqV, frqVs, frqL, frq1, reachE, blkRefs, outE, nodupE, firstE, seqO, expB2, expF, refsB, refsL, AV.refs, AV.ren, renL, renB, List.range, List.range.loop, resVs, resV, pack]) | fail "no return here"
      · rw [hq] at hex
        repeat (first | refine N.seq ?_ | refine N.blk ?_ | refine W.seq rfl ?_ | refine W.block rfl ?_ | refine W.skip rfl ?_ | refine W.ret rfl ?_ | refine N.nil ?_ | refine N.loop ?_ | refine W.exit rfl ?_ | refine X.seq ?_ | refine X.loop ?_ | refine X.hit ?_ | refine X.pass (by decide) ?_ | refine W.condT rfl (by rfl) ?_ | refine W.condF rfl (by rfl) ?_ | refine W.region tm iu_specs_ok rfl (by conv => lhs; simp [q, q2, hx, vA, vB0, ldB, Ld.cells, hex, uc, hw]) fun _ => ?_ | refine W.regionD tm iu_specs_ok rfl (by conv => lhs; simp [q, q2, hx, vA, vB0, ldB, Ld.cells, hex, uc, hw]) (by conv => lhs; simp) (by kernel_rfl) fun _ => ?_)
        refine ⟨⟨j + 1, by omega, fun i y hi hy => ?_⟩, by dsimp only; omega, AS.le_of rfl ⟨rfl, rfl, rfl, rfl, trivial⟩ (fun id => by simp [vA, vB0, ldB, Ld.cells])⟩
        by_cases e : i = j
        · subst e; rw [hx] at hy; cases hy; exact hq
        · exact hp i y (by omega) hy
noncomputable def cuS : SpecFn := mkS2 encGx fun x => (.bool (decide (0 ≤ fidx (els x.v.pl x.ld.node) x.g.1)), [vB0 x.v.view x.v.nodes x.v.P, ldB x.ld])
theorem cuS_eq (g : List Int) (hg : g.length ≤ 400) (view : Int) (nodes : List Int) (P : AV) (pl : List Pl) (ld : Ld) (hP : IsP P pl) (hn : nodes.length ≤ 8) (hl : pl.length ≤ 200) :
    cuS [.list 1 (g.map uc), .fn (.func 34) [] [.ptr 0 0 0 0, .ptr 1 0 0 0]] [{ gen := 0, kind := 2, elem := 38, size := 6, inl := false, rows := [[.int .i64 view, .list 1 (nodes.map ic), .nils, P, .nils, .nils]] }, { gen := 0, kind := 2, elem := 29, size := 3, inl := false, rows := [[.int .i64 ld.node, .int .i64 ld.now, .int .i64 ld.avg]] }] =
    some (.bool (decide (0 ≤ fidx (els pl ld.node) g)), [vB0 view nodes P, ldB ld]) := mkS2_eq (enc := encGx) encGx_inj ⟨⟨g, hg⟩, ⟨view, nodes, P, pl, hP, hn, hl⟩, ld⟩
noncomputable def cu_specs : NL Spec := [(58, ⟨3, iuS⟩)]
theorem cu_specs_ok : ∀ p ∈ cu_specs, FnC Try.prog p.1 p.2.fn := by
  simp only [cu_specs, List.mem_cons, List.not_mem_nil, or_false]
  rintro p rfl
  exact iu_ok
attribute [local simp] cu_specs
theorem cu_ok : FnC Try.prog 36 cuS := by
  refine FnC.walkB 36 (fn := Try.f36) Try.func36 rfl (by kernel_rfl) (fun x b hb => by simp [encGx] at hb; rcases hb with rfl | rfl <;> rfl) fun x => ?_
  obtain ⟨⟨l, hg⟩, ⟨view, nodes, P, pl, hP, hn, hl⟩, ld⟩ := x
  have he := iuS_eq l hg view nodes P pl ld hP hn hl
  simp only [vB0, ldB, vA, Ld.cells] at he
  change W _ (RetB _ _ 2 (.bool (decide (0 ≤ fidx (els pl ld.node) l))) [vB0 view nodes P, ldB ld]) _ _ ⟨9, [(0, .list 1 (l.map uc)), (1, .fn (.func 34) [] [.ptr 0 0 0 0, .ptr 1 0 0 0])], [(0, vB0 view nodes P), (1, ldB ld)]⟩
  rcases hP with rfl | ⟨rfl, _⟩
  all_goals
    repeat (first | refine N.seq ?_ | refine N.blk ?_ | refine W.seq rfl ?_ | refine W.block rfl ?_ | refine W.skip rfl ?_ | refine W.ret rfl ?_ | refine N.nil ?_ | refine N.loop ?_ | refine W.exit rfl ?_ | refine X.seq ?_ | refine X.loop ?_ | refine X.hit ?_ | refine X.pass (by decide) ?_ | refine W.condT rfl (by rfl) ?_ | refine W.condF rfl (by rfl) ?_ | refine W.region tm cu_specs_ok rfl (by conv => lhs; simp [vA, vB0, ldB, Ld.cells, he]) fun _ => ?_ | refine W.regionD tm cu_specs_ok rfl (by conv => lhs; simp [vA, vB0, ldB, Ld.cells, he]) (by conv => lhs; simp) (by kernel_rfl) fun _ => ?_)
    simp only [vA, vB0, ldB, Ld.cells]
    first | exact retE2_ok false (by conv => lhs; simp [retE2, frqT, frqV, frqVs, frqL, frq1, reachE, blkRefs, outE, nodupE, firstE, seqO, expB2, expF, refsB, refsL, AV.refs, AV.ren, renL, renB, List.range, List.range.loop, resVs, resV, pack]) | fail "no return here"
end Go.Abs.Po
namespace Go.Abs.Po
open Go Go.Proofs Go.Abs
set_option maxRecDepth 100000
set_option maxHeartbeats 4000000
set_option linter.unusedSimpArgs false
set_option linter.unusedVariables false
structure Pn where
  p : Int
  f : Int
  t : Int
def Pn.cells (x : Pn) : List AV := [.int .u64 x.p, .int .i64 x.f, .int .i64 x.t]
theorem Pn.inj (x y : Pn) (h : x.cells = y.cells) : x = y := by
  cases x; cases y
  simp only [Pn.cells, List.cons.injEq, AV.int.injEq, true_and, and_true] at h
  obtain ⟨rfl, rfl, rfl⟩ := h
  rfl
def good (a b : Ld) (pl : List Pl) (g : List Int) : Bool := !(g.length == 0) && !decide (0 ≤ fidx (els pl a.node) g) && !decide (IntKind.i64.wrap (a.now - b.now) < 2 * (g.length : Int))
def pland (a b : Ld) (g : List Int) : List Pn := g.map fun id => ⟨id, a.node, b.node⟩
def first (a b : Ld) (pl : List Pl) : List (List Int) → List Pn
  | [] => []
  | g :: r => if good a b pl g = true then pland a b g else first a b pl r
def starts (l : List Ld) (t : Tm) : Bool := t.ok && (pick l).2.2 && !decide (IntKind.i64.wrap ((pick l).1.avg - (pick l).2.1.avg) < t.high)
def dec (l : List Ld) (gs : List (List Int)) (pl : List Pl) (t : Tm) : List Pn := if starts l t = true then first (pick l).1 (pick l).2.1 pl gs else []
def pnV (ps : List Pn) : AV := if ps = [] then .nils else .list 3 (ps.map Pn.cells)
theorem first_good {a b : Ld} {pl : List Pl} {g : List Int} (h : good a b pl g = true) : pland a b g ≠ [] := by
  intro h'
  simp only [pland, List.map_eq_nil_iff] at h'
  subst h'
  simp [good] at h
structure Dx where
  l : { l : List Ld // l.length ≤ 200 }
  gs : GsI
  v : Vt
  t : Tm
def encDx (x : Dx) : List AV := [.list 3 (x.l.1.map Ld.cells), .list 1 (x.gs.1.map gL), x.v.av, .agg x.t.cells]
theorem encDx_inj {β : Type} {f : Dx → β} : ∀ x y, encDx x = encDx y → f x = f y := fun x y h => by
  obtain ⟨l, gs, v, t⟩ := x
  obtain ⟨l', gs', v', t'⟩ := y
  simp only [encDx, List.cons.injEq, AV.list.injEq, AV.agg.injEq, true_and, and_true] at h
  obtain ⟨h1, h2, h3, h4⟩ := h
  have := Subtype.ext (map_inj Ld.inj h1); subst this
  have := Subtype.ext (map_inj gL_inj h2); subst this
  have := Vt.inj _ _ h3; subst this
  have := Tm.inj _ _ h4; subst this
  rfl
noncomputable def decS : SpecFn := mkS encDx fun x => (pnV (dec x.l.1 x.gs.1 x.v.pl x.t), [])
theorem decS_eq (l : List Ld) (hl : l.length ≤ 200) (gs : List (List Int)) (hg : gs.length ≤ 400) (hg' : ∀ g ∈ gs, g.length ≤ 400) (view : Int) (nodes : List Int) (P : AV) (pl : List Pl) (hP : IsP P pl) (hn : nodes.length ≤ 8) (hp : pl.length ≤ 200) (t : Tm) :
    decS [.list 3 (l.map Ld.cells), .list 1 (gs.map gL), .agg [.int .i64 view, .list 1 (nodes.map ic), .nils, P, .nils, .nils], .agg [.int .i64 t.high, .int .i64 t.low, .int .i64 t.rounds]] [] = some (pnV (dec l gs pl t), []) :=
  mkS_eq (enc := encDx) encDx_inj ⟨⟨l, hl⟩, ⟨gs, hg, hg'⟩, ⟨view, nodes, P, pl, hP, hn, hp⟩, t⟩
noncomputable def de_specs : NL Spec := [(32, ⟨0, pickS⟩), (33, ⟨0, okS⟩), (36, ⟨3, cuS⟩)]
theorem de_specs_ok : ∀ p ∈ de_specs, FnC Try.prog p.1 p.2.fn := by
  simp only [de_specs, List.mem_cons, List.not_mem_nil, or_false]
  rintro p (rfl | rfl | rfl)
  · exact pick_ok
  · exact ok_ok
  · exact cu_ok
attribute [local simp] runL stepA execA_eq skipA run_ret run_fail run_get run_put run_asm num lk st lk_st putA AS.ev ofValue ofFlat mkv splice fieldAddrA buildA fillA runF gdst pickA unOpA extractA resVs resV pack frzT inlT inlV frzV frzVs frzL frz1 newId AV.cellsOf AV.flat AV.flat2 specOf loadA_runR capA copyA copyTo srcA sliceCA slice3A appendZA extA AV.place lenCA clearA clearTo expG expB3 List.zipWith renL fF handB renB AV.ren backF backL idsOf freshIds refsL refsB AV.refs List.range List.range.loop placesA sliceRows rowsOf convertA sliceArrA sliceA bndA nilCheckA arrayAtA mmA lookupA keyOf keyOK findA keyEqA foundA makeMapA mapUpdateA appendA rowsA indexA partA fieldA retE2 frqT frqV frqVs frqL frq1 reachE blkRefs outE nodupE firstE seqO expB2 expF instA take_len_map List.findIdx?_cons List.findIdx?_nil de_specs
def pnB (k : Nat) (A : List (List AV)) : ABlk := { gen := k, kind := 2, elem := 62, size := 3, inl := true, rows := A }
theorem dec_ok : FnC Try.prog 12 decS := by
  refine FnC.walk 12 (fn := Try.f12) Try.func12 rfl (by kernel_rfl) fun x => ?_
  obtain ⟨⟨l, hl⟩, ⟨gs, hg, hg'⟩, ⟨view, nodes, P, pl, hP, hn, hp⟩, t⟩ := x
  have hpk := pickS_eq l
  have hok := okS_eq t
  have hcu := fun g hg => cuS_eq g hg view nodes (.list 2 (pl.map Pl.cells)) pl (pick l).1 (isP_plL pl) hn hp
  simp only [vB0, ldB, vA, Ld.cells] at hcu
  simp only [pickV, Ld.cells] at hpk
  dsimp only
  refine W.weak (σ' := ⟨85, [(0, .list 3 (l.map Ld.cells)), (1, .list 1 (gs.map gL)), (2, .agg (vA view nodes (.list 2 (pl.map Pl.cells)))), (3, .agg t.cells)], []⟩) (AS.le_of' rfl ⟨⟨_, rfl, AV.weaker_refl _⟩, ⟨_, rfl, AV.weaker_refl _⟩, ⟨_, rfl, vA_weak hP.weak⟩, ⟨_, rfl, AV.weaker_refl _⟩, trivial⟩ (fun _ => rfl)) ?_
  clear hP P
  unfold dec starts
  generalize (pick l).1 = a at *
  generalize (pick l).2.1 = b at *
  generalize (pick l).2.2 = ok at *
  cases h1 : t.ok with
  | false =>
    rw [h1] at hok
    repeat (first | refine N.seq ?_ | refine N.blk ?_ | refine W.seq rfl ?_ | refine W.block rfl ?_ | refine W.skip rfl ?_ | refine W.ret rfl ?_ | refine N.nil ?_ | refine N.loop ?_ | refine W.exit rfl ?_ | refine X.seq ?_ | refine X.loop ?_ | refine X.hit ?_ | refine X.pass (by decide) ?_ | refine W.condT rfl (by rfl) ?_ | refine W.condF rfl (by rfl) ?_ | refine W.region tm de_specs_ok rfl (by conv => lhs; simp [vA, Tm.cells, Ld.cells, hpk, hok]) fun _ => ?_ | refine W.regionD tm de_specs_ok rfl (by conv => lhs; simp [vA, Tm.cells, Ld.cells, hpk, hok]) (by conv => lhs; simp) (by kernel_rfl) fun _ => ?_)
    simp only [Bool.false_and, Bool.false_eq_true, if_false, pnV, if_true]
    first | exact Ret.dataR rfl (by conv => lhs; simp) (by conv => lhs; simp) (by first | rfl | simp [inlT, inlV]) | fail "no return here"
  | true =>
    rw [h1] at hok
    cases ok with
    | false =>
      repeat (first | refine N.seq ?_ | refine N.blk ?_ | refine W.seq rfl ?_ | refine W.block rfl ?_ | refine W.skip rfl ?_ | refine W.ret rfl ?_ | refine N.nil ?_ | refine N.loop ?_ | refine W.exit rfl ?_ | refine X.seq ?_ | refine X.loop ?_ | refine X.hit ?_ | refine X.pass (by decide) ?_ | refine W.condT rfl (by rfl) ?_ | refine W.condF rfl (by rfl) ?_ | refine W.region tm de_specs_ok rfl (by conv => lhs; simp [vA, Tm.cells, Ld.cells, hpk, hok]) fun _ => ?_ | refine W.regionD tm de_specs_ok rfl (by conv => lhs; simp [vA, Tm.cells, Ld.cells, hpk, hok]) (by conv => lhs; simp) (by kernel_rfl) fun _ => ?_)
      simp only [Bool.true_and, Bool.false_and, Bool.false_eq_true, if_false, pnV, if_true]
      first | exact Ret.dataR rfl (by conv => lhs; simp) (by conv => lhs; simp) (by first | rfl | simp [inlT, inlV]) | fail "no return here"
    | true =>
      by_cases h2 : IntKind.i64.wrap (a.avg - b.avg) < t.high
      · repeat (first | refine N.seq ?_ | refine N.blk ?_ | refine W.seq rfl ?_ | refine W.block rfl ?_ | refine W.skip rfl ?_ | refine W.ret rfl ?_ | refine N.nil ?_ | refine N.loop ?_ | refine W.exit rfl ?_ | refine X.seq ?_ | refine X.loop ?_ | refine X.hit ?_ | refine X.pass (by decide) ?_ | refine W.condT rfl (by rfl) ?_ | refine W.condF rfl (by rfl) ?_ | refine W.region tm de_specs_ok rfl (by conv => lhs; simp [vA, Tm.cells, Ld.cells, hpk, hok, h2]) fun _ => ?_ | refine W.regionD tm de_specs_ok rfl (by conv => lhs; simp [vA, Tm.cells, Ld.cells, hpk, hok, h2]) (by conv => lhs; simp) (by kernel_rfl) fun _ => ?_)
        simp only [h2, decide_true, Bool.not_true, Bool.and_false, Bool.false_eq_true, if_false, pnV, if_true]
        first | exact Ret.dataR rfl (by conv => lhs; simp) (by conv => lhs; simp) (by first | rfl | simp [inlT, inlV]) | fail "no return here"
      · have hgo : (true && true && !decide (IntKind.i64.wrap (a.avg - b.avg) < t.high)) = true := by simp [h2]
        rw [if_pos hgo]
        repeat (first | refine N.seq ?_ | refine N.blk ?_ | refine W.seq rfl ?_ | refine W.block rfl ?_ | refine W.skip rfl ?_ | refine W.ret rfl ?_ | refine N.nil ?_ | refine N.loop ?_ | refine W.exit rfl ?_ | refine X.seq ?_ | refine X.loop ?_ | refine X.hit ?_ | refine X.pass (by decide) ?_ | refine W.condT rfl (by rfl) ?_ | refine W.condF rfl (by rfl) ?_ | refine W.region tm de_specs_ok rfl (by conv => lhs; simp [vA, Tm.cells, Ld.cells, hpk, hok, h2]) fun _ => ?_ | refine W.regionD tm de_specs_ok rfl (by conv => lhs; simp [vA, Tm.cells, Ld.cells, hpk, hok, h2]) (by conv => lhs; simp) (by kernel_rfl) fun _ => ?_)
        refine W.loop rfl (ι := { q : Nat × NL ABlk // q.1 ≤ gs.length ∧ first a b pl gs = first a b pl (gs.drop q.1) ∧ lk q.2 112 = some (vB view nodes (.list 2 (pl.map Pl.cells))) ∧ lk q.2 160 = some (cell a) ∧ lk q.2 176 = some (cell b) ∧ lk q.2 2000 = none })
          (fun q => ⟨85, [(9, .ptr 160 1 0 0), (10, .ptr 176 1 0 0), (12, .fn (.func 34) [] [.ptr 112 1 0 0, .ptr 160 1 0 0]), (42, .list 1 (gs.map gL)), (43, .int .i64 gs.length), (44, .int .i64 (q.1.1 : Nat))], q.1.2⟩) (fun q => gs.length - q.1.1)
          ⟨(0, _), by simp, rfl, by rfl, by rfl, by rfl, by rfl⟩ (AS.le_of rfl ⟨rfl, rfl, rfl, rfl, rfl, rfl, trivial⟩ (fun _ => rfl)) ?_
        rintro ⟨⟨k, h⟩, hk, hi, e1, e2, e3, e4⟩
        dsimp only at hk hi e1 e2 e3 e4 ⊢
        rw [hi]
        by_cases hk2 : k = gs.length
        · subst hk2
          rw [List.drop_length]
          repeat (first | refine N.seq ?_ | refine N.blk ?_ | refine W.seq rfl ?_ | refine W.block rfl ?_ | refine W.skip rfl ?_ | refine W.ret rfl ?_ | refine N.nil ?_ | refine N.loop ?_ | refine W.exit rfl ?_ | refine X.seq ?_ | refine X.loop ?_ | refine X.hit ?_ | refine X.pass (by decide) ?_ | refine W.condT rfl (by rfl) ?_ | refine W.condF rfl (by rfl) ?_ | refine W.region tm de_specs_ok rfl (by conv => lhs; simp) fun _ => ?_ | refine W.regionD tm de_specs_ok rfl (by conv => lhs; simp) (by conv => lhs; simp) (by kernel_rfl) fun _ => ?_)
          simp only [first, pnV, if_true]
          first | exact Ret.dataR rfl (by conv => lhs; simp) (by conv => lhs; simp) (by first | rfl | simp [inlT, inlV]) | fail "no return here"
        · have hlt : k < gs.length := by omega
          obtain ⟨g, hx⟩ := get_lt hlt
          have hgl := hg' g (List.mem_of_getElem? hx)
          have q1 : (k : Int) < gs.length := by omega
          have q2 : ¬ gs.length ≤ k := by omega
          have hw := w64_succ hlt (cap4 hg)
          have hC := hcu g hgl
          have w2 : IntKind.i64.wrap (2 * (g.length : Int)) = 2 * (g.length : Int) := w64 (by omega) (by omega)
          rw [dropG hx]
          cases hgd : good a b pl g with
          | false =>
            have hfst : first a b pl (g :: gs.drop (k + 1)) = first a b pl (gs.drop (k + 1)) := by simp [first, hgd]
            rw [hfst]
            by_cases c1 : g.length = 0
            · have c1' : ((g.length : Int) == 0) = true := beq_iff_eq.2 (by omega)
              have c1'' : g = [] := List.eq_nil_of_length_eq_zero c1
              repeat (first | refine N.seq ?_ | refine N.blk ?_ | refine W.seq rfl ?_ | refine W.block rfl ?_ | refine W.skip rfl ?_ | refine W.ret rfl ?_ | refine N.nil ?_ | refine N.loop ?_ | refine W.exit rfl ?_ | refine X.seq ?_ | refine X.loop ?_ | refine X.hit ?_ | refine X.pass (by decide) ?_ | refine W.condT rfl (by rfl) ?_ | refine W.condF rfl (by rfl) ?_ | refine W.region tm de_specs_ok rfl (by conv => lhs; simp [q1, q2, hx, hw, gL, c1', c1'', e1, e2, e3, vB, vA, cell, Ld.cells]) fun _ => ?_ | refine W.regionD tm de_specs_ok rfl (by conv => lhs; simp [q1, q2, hx, hw, gL, c1', c1'', e1, e2, e3, vB, vA, cell, Ld.cells]) (by conv => lhs; simp) (by kernel_rfl) fun _ => ?_)
              exact ⟨⟨(k + 1, _), hlt, rfl, by simp [lk_st, e1, vB, vA], by simp [lk_st, e2, cell, Ld.cells], by simp [lk_st, e3, cell, Ld.cells], by simp [lk_st, e4]⟩, by dsimp only; omega, AS.le_of rfl ⟨rfl, rfl, rfl, rfl, rfl, rfl, trivial⟩ (fun _ => rfl)⟩
            · have c1' : ((g.length : Int) == 0) = false := beq_eq_false_iff_ne.2 (by omega)
              by_cases c2 : 0 ≤ fidx (els pl a.node) g
              · have hC' := hC
                simp only [c2, decide_true] at hC'
                repeat (first | refine N.seq ?_ | refine N.blk ?_ | refine W.seq rfl ?_ | refine W.block rfl ?_ | refine W.skip rfl ?_ | refine W.ret rfl ?_ | refine N.nil ?_ | refine N.loop ?_ | refine W.exit rfl ?_ | refine X.seq ?_ | refine X.loop ?_ | refine X.hit ?_ | refine X.pass (by decide) ?_ | refine W.condT rfl (by rfl) ?_ | refine W.condF rfl (by rfl) ?_ | refine W.region tm de_specs_ok rfl (by conv => lhs; simp [q1, q2, hx, hw, gL, c1', c1, hC', e1, e2, e3, vB, vA, cell, Ld.cells]) fun _ => ?_ | refine W.regionD tm de_specs_ok rfl (by conv => lhs; simp [q1, q2, hx, hw, gL, c1', c1, hC', e1, e2, e3, vB, vA, cell, Ld.cells]) (by conv => lhs; simp) (by kernel_rfl) fun _ => ?_)
                exact ⟨⟨(k + 1, _), hlt, rfl, by simp [lk_st, e1, vB, vA], by simp [lk_st, e2, cell, Ld.cells], by simp [lk_st, e3, cell, Ld.cells], by simp [lk_st, e4]⟩, by dsimp only; omega, AS.le_of rfl ⟨rfl, rfl, rfl, rfl, rfl, rfl, trivial⟩ (fun _ => rfl)⟩
              · have hC' := hC
                simp only [c2, decide_false] at hC'
                have c3 : IntKind.i64.wrap (a.now - b.now) < 2 * (g.length : Int) := by
                  simp only [good, Bool.and_eq_false_iff, Bool.not_eq_false', decide_eq_true_eq, beq_iff_eq] at hgd
                  rcases hgd with (h | h) | h
                  · exact absurd h c1
                  · exact absurd h c2
                  · exact h
                repeat (first | refine N.seq ?_ | refine N.blk ?_ | refine W.seq rfl ?_ | refine W.block rfl ?_ | refine W.skip rfl ?_ | refine W.ret rfl ?_ | refine N.nil ?_ | refine N.loop ?_ | refine W.exit rfl ?_ | refine X.seq ?_ | refine X.loop ?_ | refine X.hit ?_ | refine X.pass (by decide) ?_ | refine W.condT rfl (by rfl) ?_ | refine W.condF rfl (by rfl) ?_ | refine W.region tm de_specs_ok rfl (by conv => lhs; simp [q1, q2, hx, hw, gL, c1', c1, hC', c3, w2, e1, e2, e3, vB, vA, cell, Ld.cells]) fun _ => ?_ | refine W.regionD tm de_specs_ok rfl (by conv => lhs; simp [q1, q2, hx, hw, gL, c1', c1, hC', c3, w2, e1, e2, e3, vB, vA, cell, Ld.cells]) (by conv => lhs; simp) (by kernel_rfl) fun _ => ?_)
                exact ⟨⟨(k + 1, _), hlt, rfl, by simp [lk_st, e1, vB, vA], by simp [lk_st, e2, cell, Ld.cells], by simp [lk_st, e3, cell, Ld.cells], by simp [lk_st, e4]⟩, by dsimp only; omega, AS.le_of rfl ⟨rfl, rfl, rfl, rfl, rfl, rfl, trivial⟩ (fun _ => rfl)⟩
          | true =>
            have hfst : first a b pl (g :: gs.drop (k + 1)) = pland a b g := by simp [first, hgd]
            rw [hfst]
            have hne := first_good hgd
            simp only [good, Bool.and_eq_true, Bool.not_eq_true', decide_eq_false_iff_not, beq_eq_false_iff_ne] at hgd
            obtain ⟨⟨c1, c2⟩, c3⟩ := hgd
            have c1' : ((g.length : Int) == 0) = false := beq_eq_false_iff_ne.2 (by omega)
            have hC' := hC
            simp only [c2, decide_false] at hC'
            simp only [pnV, if_neg hne]
            repeat (first | refine N.seq ?_ | refine N.blk ?_ | refine W.seq rfl ?_ | refine W.block rfl ?_ | refine W.skip rfl ?_ | refine W.ret rfl ?_ | refine N.nil ?_ | refine N.loop ?_ | refine W.exit rfl ?_ | refine X.seq ?_ | refine X.loop ?_ | refine X.hit ?_ | refine X.pass (by decide) ?_ | refine W.condT rfl (by rfl) ?_ | refine W.condF rfl (by rfl) ?_ | refine W.region tm de_specs_ok rfl (by conv => lhs; simp [q1, q2, hx, hw, gL, c1', c1, hC', c3, w2, e1, e2, e3, vB, vA, cell, Ld.cells]) fun _ => ?_ | refine W.regionD tm de_specs_ok rfl (by conv => lhs; simp [q1, q2, hx, hw, gL, c1', c1, hC', c3, w2, e1, e2, e3, vB, vA, cell, Ld.cells]) (by conv => lhs; simp) (by kernel_rfl) fun _ => ?_)
            refine W.phantom (t := 15) 2000 62 3 true rfl (by simp [lk_st, e4]) (by decide) ?_
            refine W.loop rfl (ι := { q : Nat × NL ABlk // q.1 ≤ g.length ∧ lk q.2 160 = some (cell a) ∧ lk q.2 176 = some (cell b) ∧ lk q.2 2000 = some (pnB q.1 (((pland a b g).map Pn.cells).take q.1)) })
              (fun q => ⟨85, [(9, .ptr 160 1 0 0), (10, .ptr 176 1 0 0), (15, .sl 2000 q.1.1 0 q.1.1), (67, .list 1 (g.map uc)), (68, .int .i64 g.length), (69, .int .i64 (q.1.1 : Nat))], q.1.2⟩) (fun q => g.length - q.1.1)
              ⟨(0, _), by simp, by simp [lk, lk_st, e2, cell, Ld.cells], by simp [lk, lk_st, e3, cell, Ld.cells], by simp [lk, pnB]⟩ (AS.le_of rfl ⟨rfl, rfl, rfl, rfl, rfl, rfl, trivial⟩ (fun _ => rfl)) ?_
            clear e1 e2 e3 e4 hC hC' h hi
            rintro ⟨⟨j, h⟩, hj, e1, e2, e3⟩
            dsimp only at hj e1 e2 e3 ⊢
            by_cases hj2 : j = g.length
            · subst hj2
              have hlen : ((pland a b g).map Pn.cells).length = g.length := by simp [pland]
              rw [List.take_of_length_le (by omega)] at e3
              generalize (pland a b g).map Pn.cells = A at hlen e3 ⊢
              have hle : g.length ≤ A.length := by omega
              have htk : List.take g.length A = A := List.take_of_length_le (by omega)
              repeat (first | refine N.seq ?_ | refine N.blk ?_ | refine W.seq rfl ?_ | refine W.block rfl ?_ | refine W.skip rfl ?_ | refine W.ret rfl ?_ | refine N.nil ?_ | refine N.loop ?_ | refine W.exit rfl ?_ | refine X.seq ?_ | refine X.loop ?_ | refine X.hit ?_ | refine X.pass (by decide) ?_ | refine W.condT rfl (by rfl) ?_ | refine W.condF rfl (by rfl) ?_ | refine W.region tm de_specs_ok rfl (by conv => lhs; simp) fun _ => ?_ | refine W.regionD tm de_specs_ok rfl (by conv => lhs; simp) (by conv => lhs; simp) (by kernel_rfl) fun _ => ?_)
              first | exact Ret.dataR rfl (by conv => lhs; simp [e3, pnB, hle, htk]) (by conv => lhs; simp [e3, pnB, hle, htk]) (by first | rfl | simp [inlT, inlV]) | fail "no return here"
            · have hjt : j < g.length := by omega
              obtain ⟨y, hy⟩ := get_lt hjt
              have r1 : (j : Int) < g.length := by omega
              have r2 : ¬ g.length ≤ j := by omega
              have hwj := w64_succ hjt (cap4 hgl)
              have hst : ((pland a b g).map Pn.cells).take (j + 1) = ((pland a b g).map Pn.cells).take j ++ [[.int .u64 y, .int .i64 a.node, .int .i64 b.node]] := by
                rw [List.take_add_one]
                simp [pland, hy, Pn.cells]
              have hkl : (((pland a b g).map Pn.cells).take j).length = j := by simp [pland]; omega
              generalize ((pland a b g).map Pn.cells).take j = A at hst hkl e3
              have hfr := firstRows_full hkl
              have z1 : (j + 1) * 24 ≤ 140737488355328 := by omega
              have z2 : j ≤ 9223372036854775806 := by omega
              repeat (first | refine N.seq ?_ | refine N.blk ?_ | refine W.seq rfl ?_ | refine W.block rfl ?_ | refine W.skip rfl ?_ | refine W.ret rfl ?_ | refine N.nil ?_ | refine N.loop ?_ | refine W.exit rfl ?_ | refine X.seq ?_ | refine X.loop ?_ | refine X.hit ?_ | refine X.pass (by decide) ?_ | refine W.condT rfl (by rfl) ?_ | refine W.condF rfl (by rfl) ?_ | refine W.region tm de_specs_ok rfl (by conv => lhs; simp [r1, r2, hy, uc, e1, e2, e3, cell, Ld.cells, pnB, hkl, hfr, z1, z2, hwj, maxLen]) fun _ => ?_ | refine W.regionD tm de_specs_ok rfl (by conv => lhs; simp [r1, r2, hy, uc, e1, e2, e3, cell, Ld.cells, pnB, hkl, hfr, z1, z2, hwj, maxLen]) (by conv => lhs; simp) (by kernel_rfl) fun _ => ?_)
              exact ⟨⟨(j + 1, _), hjt, by simp [lk_st, e1, cell, Ld.cells], by simp [lk_st, e2, cell, Ld.cells], by rw [hst]; simp [lk_st, pnB]⟩, by dsimp only; omega, AS.le_of rfl ⟨rfl, rfl, rfl, rfl, rfl, rfl, trivial⟩ (fun _ => rfl)⟩
end Go.Abs.Po
namespace Go.Abs.Po
open Go Go.Proofs Go.Abs
set_option maxRecDepth 100000
set_option maxHeartbeats 4000000
set_option linter.unusedSimpArgs false
set_option linter.unusedVariables false
noncomputable def du_specs : NL Spec := [(61, ⟨3, cloneC 3 1 8⟩), (62, ⟨1, storeS⟩), (63, ⟨3, cloneC 57 2 16⟩), (64, ⟨1, nilS⟩), (65, ⟨1, nil2S⟩)]
theorem du_specs_ok : ∀ p ∈ du_specs, FnC Try.prog p.1 p.2.fn := by
  simp only [du_specs, List.mem_cons, List.not_mem_nil, or_false]
  rintro p (rfl | rfl | rfl | rfl | rfl)
  · exact clone61_ok
  · exact store62_ok
  · exact clone63_ok
  · exact clone64_ok
  · exact each65_ok
attribute [local simp] runL stepA execA_eq skipA run_ret run_fail run_get run_put run_asm num lk st lk_st putA AS.ev ofValue ofFlat mkv splice fieldAddrA buildA fillA runF gdst pickA unOpA extractA resVs resV pack frzT inlT inlV frzV frzVs frzL frz1 newId AV.cellsOf AV.flat AV.flat2 specOf loadA_runR capA copyA copyTo srcA sliceCA slice3A appendZA extA AV.place lenCA clearA clearTo expG expB3 List.zipWith renL fF handB renB AV.ren backF backL idsOf freshIds refsL refsB AV.refs List.range List.range.loop placesA sliceRows rowsOf convertA sliceArrA sliceA bndA nilCheckA arrayAtA mmA lookupA keyOf keyOK findA keyEqA foundA makeMapA mapUpdateA appendA rowsA indexA partA fieldA retE2 frqT frqV frqVs frqL frq1 reachE blkRefs outE nodupE firstE seqO expB2 expF instA take_len_map List.findIdx?_cons List.findIdx?_nil du_specs
structure Wt where
  view : Int
  nodes : List Int
  pl : List Pl
  hn : nodes.length ≤ 8
  hl : pl.length ≤ 200
def encWt (x : Wt) : List AV × List ABlk := ([.agg (vA x.view x.nodes (.list 2 (x.pl.map Pl.cells)))], [])
theorem Wt.inj (x y : Wt) (h : vA x.view x.nodes (.list 2 (x.pl.map Pl.cells)) = vA y.view y.nodes (.list 2 (y.pl.map Pl.cells))) : x = y := by
  obtain ⟨v, nd, pl, hn, hl⟩ := x
  obtain ⟨v', nd', pl', hn', hl'⟩ := y
  simp only [vA, List.cons.injEq, AV.int.injEq, AV.list.injEq, true_and, and_true] at h
  obtain ⟨rfl, h2, h3⟩ := h
  have := map_inj ic_inj h2
  subst this
  have := map_inj Pl.inj h3
  subst this
  rfl
theorem encWt_inj {β : Type} {f : Wt → β} : ∀ x y, encWt x = encWt y → f x = f y := fun x y h => by
  simp only [encWt, Prod.mk.injEq, List.cons.injEq, AV.agg.injEq, true_and, and_true] at h
  rw [Wt.inj x y h]
def nB (nodes : List Int) : ABlk := { gen := 0, kind := 2, elem := 3, size := 1, inl := true, rows := nodes.map ic }
/-- A copy, with memory of its own. -/
noncomputable def dupS : SpecFn := mkS2 encWt fun x => (.agg [.int .i64 x.view, .sl 0 0 0 x.nodes.length, .nils, .sl 1 0 0 x.pl.length, .nils, .nils], [nB x.nodes, pB x.pl])
theorem dupS_eq (view : Int) (nodes : List Int) (pl : List Pl) (hn : nodes.length ≤ 8) (hl : pl.length ≤ 200) :
    dupS [.agg [.int .i64 view, .list 1 (nodes.map ic), .nils, .list 2 (pl.map Pl.cells), .nils, .nils]] [] = some (.agg [.int .i64 view, .sl 0 0 0 nodes.length, .nils, .sl 1 0 0 pl.length, .nils, .nils], [nB nodes, pB pl]) := mkS2_eq (enc := encWt) encWt_inj ⟨view, nodes, pl, hn, hl⟩
/-- A copy that is changed no more. -/
noncomputable def dup2S : SpecFn := mkS2 encWt fun x => (.agg (vA x.view x.nodes (.list 2 (x.pl.map Pl.cells))), [])
theorem dup2S_eq (view : Int) (nodes : List Int) (pl : List Pl) (hn : nodes.length ≤ 8) (hl : pl.length ≤ 200) :
    dup2S [.agg [.int .i64 view, .list 1 (nodes.map ic), .nils, .list 2 (pl.map Pl.cells), .nils, .nils]] [] = some (.agg [.int .i64 view, .list 1 (nodes.map ic), .nils, .list 2 (pl.map Pl.cells), .nils, .nils], []) := mkS2_eq (enc := encWt) encWt_inj ⟨view, nodes, pl, hn, hl⟩
theorem clA (nodes : List Int) (hn : nodes.length ≤ 8) : cloneC 3 1 8 [.list 1 (nodes.map ic)] [] = some (.sl 0 0 0 nodes.length, [nB nodes]) := by
  have h1 : nodes.length * 8 ≤ 140737488355328 := by omega
  have h2 : nodes.length ≤ 9223372036854775807 := by omega
  have h3 : nodes.length ≤ maxLen := by simp only [maxLen]; omega
  simp [cloneC, h1, h2, h3, rowB, nB]
theorem clB (pl : List Pl) (hl : pl.length ≤ 200) : cloneC 57 2 16 [.list 2 (pl.map Pl.cells)] [] = some (.sl 0 0 0 pl.length, [pB pl]) := by
  have h1 : pl.length * 16 ≤ 140737488355328 := by omega
  have h2 : pl.length ≤ 9223372036854775807 := by omega
  have h3 : pl.length ≤ maxLen := by simp only [maxLen]; omega
  simp [cloneC, h1, h2, h3, rowB, pB]
theorem dup_ok : FnC Try.prog 43 dupS := by
  refine FnC.walkMV 43 (fn := Try.f43) Try.func43 rfl (by kernel_rfl) (fun x b hb => by simp [encWt] at hb) fun x => ?_
  obtain ⟨view, nodes, pl, hn, hl⟩ := x
  change V _ (RetM _ _ 0 (.agg [.int .i64 view, .sl 0 0 0 nodes.length, .nils, .sl 1 0 0 pl.length, .nils, .nils]) [nB nodes, pB pl]) _ _ ⟨24, [(0, .agg (vA view nodes (.list 2 (pl.map Pl.cells))))], []⟩
  have h1 := clA nodes hn
  have h2 := clB pl hl
  simp only [nB, pB] at h1 h2
  repeat (first | refine NV.seq ?_ | refine NV.blk ?_ | refine V.seq rfl ?_ | refine V.block rfl ?_ | refine V.skip rfl ?_ | refine V.ret rfl ?_ | refine NV.nil ?_ | refine NV.loop ?_ | refine V.exit rfl ?_ | refine XV.seq ?_ | refine XV.loop ?_ | refine XV.hit ?_ | refine XV.pass (by decide) ?_ | refine V.condT rfl (by rfl) ?_ | refine V.condF rfl (by rfl) ?_ | refine V.region tm du_specs_ok rfl (by conv => lhs; simp [vA, h1, h2, storeS, nilS, nil2S]) fun _ => ?_ | refine V.regionD tm du_specs_ok rfl (by conv => lhs; simp [vA, h1, h2, storeS, nilS, nil2S]) (by conv => lhs; simp) (by kernel_rfl) fun _ => ?_)
  simp only [nB, pB]
  refine retM2_ok false [96, 192] [0, 0] ?_
  simp [retM2, movedOK, oldOK, frqT, frqV, frqVs, frqL, frq1, expG, expB3, renB, AV.ren, renL, List.range, List.range.loop, resVs, resV, pack, List.zipWith, List.idxOf?, List.findIdx?, List.findIdx?.go]
theorem dup2_ok : FnC Try.prog 43 dup2S := by
  refine FnC.walkV 43 (fn := Try.f43) Try.func43 rfl (by kernel_rfl) (fun x b hb => by simp [encWt] at hb) fun x => ?_
  obtain ⟨view, nodes, pl, hn, hl⟩ := x
  change V _ (RetB _ _ 0 (.agg (vA view nodes (.list 2 (pl.map Pl.cells)))) []) _ _ ⟨24, [(0, .agg (vA view nodes (.list 2 (pl.map Pl.cells))))], []⟩
  have h1 := clA nodes hn
  have h2 := clB pl hl
  simp only [nB, pB] at h1 h2
  repeat (first | refine NV.seq ?_ | refine NV.blk ?_ | refine V.seq rfl ?_ | refine V.block rfl ?_ | refine V.skip rfl ?_ | refine V.ret rfl ?_ | refine NV.nil ?_ | refine NV.loop ?_ | refine V.exit rfl ?_ | refine XV.seq ?_ | refine XV.loop ?_ | refine XV.hit ?_ | refine XV.pass (by decide) ?_ | refine V.condT rfl (by rfl) ?_ | refine V.condF rfl (by rfl) ?_ | refine V.region tm du_specs_ok rfl (by conv => lhs; simp [vA, h1, h2, storeS, nilS, nil2S]) fun _ => ?_ | refine V.regionD tm du_specs_ok rfl (by conv => lhs; simp [vA, h1, h2, storeS, nilS, nil2S]) (by conv => lhs; simp) (by kernel_rfl) fun _ => ?_)
  simp only [vA]
  first | exact retE2_ok true (by conv => lhs; simp [retE2, frqT, frqV, frqVs, frqL, frq1, reachE, blkRefs, outE, nodupE, firstE, seqO, expB2, expF, refsB, refsL, AV.refs, AV.ren, renL, renB, List.range, List.range.loop, resVs, resV, pack]) | fail "no return here"
end Go.Abs.Po
namespace Go.Abs.Po
open Go Go.Proofs Go.Abs
set_option maxRecDepth 100000
set_option maxHeartbeats 4000000
set_option linter.unusedSimpArgs false
set_option linter.unusedVariables false
noncomputable def df_specs : NL Spec := [(72, ⟨3, ixS⟩), (83, ⟨3, c1S⟩)]
theorem df_specs_ok : ∀ p ∈ df_specs, FnC Try.prog p.1 p.2.fn := by
  simp only [df_specs, List.mem_cons, List.not_mem_nil, or_false]
  rintro p (rfl | rfl)
  · exact index_ok
  · exact c83_ok
attribute [local simp] runL stepA execA_eq skipA run_ret run_fail run_get run_put run_asm num lk st lk_st putA AS.ev ofValue ofFlat mkv splice fieldAddrA buildA fillA runF gdst pickA unOpA extractA resVs resV pack frzT inlT inlV frzV frzVs frzL frz1 newId AV.cellsOf AV.flat AV.flat2 specOf loadA_runR capA copyA copyTo srcA sliceCA slice3A appendZA extA AV.place lenCA clearA clearTo expG expB3 List.zipWith renL fF handB renB AV.ren backF backL idsOf freshIds refsL refsB AV.refs List.range List.range.loop placesA sliceRows rowsOf convertA sliceArrA sliceA bndA nilCheckA arrayAtA mmA lookupA keyOf keyOK findA keyEqA foundA makeMapA mapUpdateA appendA rowsA indexA partA fieldA retE2 frqT frqV frqVs frqL frq1 reachE blkRefs outE nodupE firstE seqO expB2 expF instA take_len_map List.findIdx?_cons List.findIdx?_nil df_specs c1S_eq
def encDf (x : PL × Int) : List AV × List ABlk := ([.sl 0 0 0 x.1.1.length, .fn (.func 83) [] [.ptr 1 0 0 0]], [pB x.1.1, cB x.2])
theorem encDf_inj {β : Type} {f : PL × Int → β} : ∀ x y, encDf x = encDf y → f x = f y := fun x y h => by
  simp only [encDf, Prod.mk.injEq, List.cons.injEq, and_true, true_and] at h
  obtain ⟨_, h1, h3⟩ := h
  rw [Prod.ext (Subtype.ext (pB_inj h1)) (cB_inj h3)]
def pB1 (l : List Pl) : ABlk := { gen := 1, kind := 2, elem := 57, size := 2, inl := true, rows := l.map Pl.cells }
noncomputable def dfS : SpecFn := mkS2 encDf fun x => if fidx (pk true x.2) x.1.1 = -1 then (.sl 0 0 0 x.1.1.length, [pB x.1.1, cB x.2]) else (.sl 0 1 0 (vac x.1.1 x.2).length, [pB1 (vac x.1.1 x.2), cB x.2])
theorem dfS_eq (l : List Pl) (h : l.length ≤ 200) (k : Int) : dfS [.sl 0 0 0 l.length, .fn (.func 83) [] [.ptr 1 0 0 0]] [{ gen := 0, kind := 2, elem := 57, size := 2, inl := true, rows := l.map Pl.cells }, { gen := 0, kind := 2, elem := 55, size := 1, inl := false, rows := [[.int .u64 k]] }] =
    some (if fidx (pk true k) l = -1 then (.sl 0 0 0 l.length, [pB l, cB k]) else (.sl 0 1 0 (vac l k).length, [pB1 (vac l k), cB k])) := mkS2_eq (enc := encDf) encDf_inj (⟨l, h⟩, k)
theorem vac_take {l : List Pl} {k : Nat} {id : Int} (h : ∀ i y, i < k → l[i]? = some y → pk true id y = false) (hk : k ≤ l.length) : vac (l.take k) id = l.take k := by
  rw [vac, List.filter_eq_self]
  intro y hy
  obtain ⟨i, hi, rfl⟩ := List.mem_iff_getElem.1 hy
  simp only [List.length_take] at hi
  rw [List.getElem_take]
  have := h i _ (by omega) (List.getElem?_eq_getElem (by omega))
  simpa [pk] using this
theorem vac_self {l : List Pl} {id : Int} (h : fidx (pk true id) l = -1) : vac l id = l := by
  rcases fidx_cases (pk true id) l with ⟨_, h'⟩ | ⟨k, x, h', _⟩
  · rw [vac, List.filter_eq_self]
    intro y hy
    obtain ⟨i, hi, rfl⟩ := List.mem_iff_getElem.1 hy
    simpa [pk] using h' i _ (List.getElem?_eq_getElem hi)
  · omega
theorem df_ok : FnC Try.prog 82 dfS := by
  refine FnC.walkMV 82 (fn := Try.f82) Try.func82 rfl (by kernel_rfl) (fun x b hb => by simp [encDf] at hb; rcases hb with rfl | rfl <;> rfl) fun x => ?_
  obtain ⟨⟨l, hl⟩, id⟩ := x
  change V _ (RetM _ _ 2 _ _) _ _ ⟨42, [(0, .sl 0 0 0 l.length), (1, .fn (.func 83) [] [.ptr 1 0 0 0])], [(0, pB l), (1, cB id)]⟩
  dsimp only
  have hI := ixS_c l hl id
  rcases fidx_cases (pk true id) l with ⟨h0, h'⟩ | ⟨i, x0, h0, hx0, hp0, hb0⟩
  · rw [if_pos h0]
    rw [h0] at hI
    repeat (first | refine NV.seq ?_ | refine NV.blk ?_ | refine V.seq rfl ?_ | refine V.block rfl ?_ | refine V.skip rfl ?_ | refine V.ret rfl ?_ | refine NV.nil ?_ | refine NV.loop ?_ | refine V.exit rfl ?_ | refine XV.seq ?_ | refine XV.loop ?_ | refine XV.hit ?_ | refine XV.pass (by decide) ?_ | refine V.condT rfl (by rfl) ?_ | refine V.condF rfl (by rfl) ?_ | refine V.region tm df_specs_ok rfl (by conv => lhs; simp [hI, pB, cB]) fun _ => ?_ | refine V.regionD tm df_specs_ok rfl (by conv => lhs; simp [hI, pB, cB]) (by conv => lhs; simp) (by kernel_rfl) fun _ => ?_)
    simp only [pB, cB]
    refine retM2_ok false [0, 1] [0, 0] ?_
    simp [retM2, movedOK, oldOK, frqT, frqV, frqVs, frqL, frq1, expG, expB3, renB, AV.ren, renL, List.range, List.range.loop, resVs, resV, pack, List.zipWith, List.idxOf?, List.findIdx?, List.findIdx?.go]
  · have hne : ¬ fidx (pk true id) l = -1 := by omega
    rw [if_neg hne]
    rw [h0] at hI
    have hil := (List.getElem?_eq_some_iff.1 hx0).1
    have e0 : ((i : Int) == -1) = false := beq_eq_false_iff_ne.2 (by omega)
    have w0 : IntKind.i64.wrap ((i : Int) + 1) = ((i + 1 : Nat) : Int) := w64 (by omega) (by omega)
    have hvi : vac (l.take (i + 1)) id = l.take i := by
      rw [vac_step id hx0, if_pos (by simpa [pk] using hp0), vac_take hb0 (by omega)]
    repeat (first | refine NV.seq ?_ | refine NV.blk ?_ | refine V.seq rfl ?_ | refine V.block rfl ?_ | refine V.skip rfl ?_ | refine V.ret rfl ?_ | refine NV.nil ?_ | refine NV.loop ?_ | refine V.exit rfl ?_ | refine XV.seq ?_ | refine XV.loop ?_ | refine XV.hit ?_ | refine XV.pass (by decide) ?_ | refine V.condT rfl (by rfl) ?_ | refine V.condF rfl (by rfl) ?_ | refine V.region tm df_specs_ok rfl (by conv => lhs; simp [hI, pB, cB, e0, w0]) fun _ => ?_ | refine V.regionD tm df_specs_ok rfl (by conv => lhs; simp [hI, pB, cB, e0, w0]) (by conv => lhs; simp) (by kernel_rfl) fun _ => ?_)
    refine V.loop rfl (ι := { q : Nat × List Pl × NL ABlk // i + 1 ≤ q.1 ∧ q.1 ≤ l.length ∧ q.2.1.length = l.length ∧ q.2.1.take (vac (l.take q.1) id).length = vac (l.take q.1) id ∧ q.2.1.drop q.1 = l.drop q.1 ∧ lk q.2.2 0 = some (pB q.2.1) ∧ lk q.2.2 1 = some (cB id) })
      (fun q => ⟨42, [(0, .sl 0 0 0 l.length), (1, .fn (.func 83) [] [.ptr 1 0 0 0]), (5, .int .i64 ((vac (l.take q.1.1) id).length : Nat)), (6, .int .i64 (q.1.1 : Nat))], q.1.2.2⟩) (fun q => l.length - q.1.1)
      ⟨(i + 1, l, _), by simp, by dsimp only; omega, by simp, by dsimp only; rw [hvi]; simp [hil, Nat.min_eq_left (Nat.le_of_lt hil)], by simp, by rfl, by rfl⟩ (AS.le_of rfl ⟨rfl, rfl, by dsimp only; rw [hvi]; simp [lk]; omega, rfl, trivial⟩ (fun _ => rfl)) ?_
    rintro ⟨⟨j, R, h⟩, hij, hj, hRl, hRt, hRd, h1, h2⟩
    dsimp only at hij hj hRl hRt hRd h1 h2 ⊢
    have hvl : (vac (l.take j) id).length ≤ j := by
      have := vac_len (l.take j) id
      simp at this; omega
    by_cases hj2 : j = l.length
    · subst hj2
      rw [List.take_length] at hRt hvl ⊢
      generalize vac l id = F at hRt hvl ⊢
      repeat (first | refine NV.seq ?_ | refine NV.blk ?_ | refine V.seq rfl ?_ | refine V.block rfl ?_ | refine V.skip rfl ?_ | refine NV.nil ?_ | refine NV.loop ?_ | refine V.exit rfl ?_ | refine XV.seq ?_ | refine XV.loop ?_ | refine XV.hit ?_ | refine XV.pass (by decide) ?_ | refine V.condT rfl (by rfl) ?_ | refine V.condF rfl (by rfl) ?_ | refine V.region tm df_specs_ok rfl (by conv => lhs; simp [h1, h2, cB, pB, hRl, hvl]) fun _ => ?_ | refine V.regionD tm df_specs_ok rfl (by conv => lhs; simp [h1, h2, cB, pB, hRl, hvl]) (by conv => lhs; simp) (by kernel_rfl) fun _ => ?_)
      have hb1 : lk (st h 0 { gen := 0, kind := 2, elem := 57, size := 2, inl := true, rows := List.take F.length (List.map Pl.cells R) ++ (List.replicate (l.length - F.length) [AV.int IntKind.u64 0, AV.int IntKind.i64 0] ++ List.drop l.length (List.map Pl.cells R)) }) 0 = some { gen := 0, kind := 2, elem := 57, size := 2, inl := true, rows := List.take F.length (List.map Pl.cells R) ++ (List.replicate (l.length - F.length) [AV.int IntKind.u64 0, AV.int IntKind.i64 0] ++ List.drop l.length (List.map Pl.cells R)) } := by simp [lk_st]
      refine V.shrink (t := 4) rfl hb1 rfl rfl ?_
      have hR2 : List.take F.length (List.take F.length (List.map Pl.cells R) ++ (List.replicate (l.length - F.length) [AV.int IntKind.u64 0, AV.int IntKind.i64 0] ++ List.drop l.length (List.map Pl.cells R))) = F.map Pl.cells := by
        have e1 : (List.take F.length (List.map Pl.cells R)) = F.map Pl.cells := by rw [← List.map_take, hRt]
        rw [e1]
        exact List.take_left' (by simp)
      repeat (first | refine NV.seq ?_ | refine NV.blk ?_ | refine V.seq rfl ?_ | refine V.block rfl ?_ | refine V.skip rfl ?_ | refine V.ret rfl ?_ | refine NV.nil ?_ | refine NV.loop ?_ | refine V.exit rfl ?_ | refine XV.seq ?_ | refine XV.loop ?_ | refine XV.hit ?_ | refine XV.pass (by decide) ?_ | refine V.condT rfl (by rfl) ?_ | refine V.condF rfl (by rfl) ?_ | refine V.region tm df_specs_ok rfl (by conv => lhs; simp) fun _ => ?_ | refine V.regionD tm df_specs_ok rfl (by conv => lhs; simp) (by conv => lhs; simp) (by kernel_rfl) fun _ => ?_)
      simp only [pB1, cB, hR2]
      refine retM2_ok false [0, 1] [1, 0] ?_
      simp [retM2, movedOK, oldOK, frqT, frqV, frqVs, frqL, frq1, expG, expB3, renB, AV.ren, renL, List.range, List.range.loop, resVs, resV, pack, List.zipWith, List.idxOf?, List.findIdx?, List.findIdx?.go, h2, cB]
    · have hlt : j < l.length := by omega
      obtain ⟨x, hx⟩ := get_lt hlt
      have q1 : (j : Int) < l.length := by omega
      have q2 : ¬ l.length ≤ j := by omega
      have hw := w64_succ hlt (capX hl)
      have hst := vac_step id hx
      have hRx : R[j]? = some x := by
        have : (R.drop j)[0]? = (l.drop j)[0]? := by rw [hRd]
        simpa [hx] using this
      have hRd' : R.drop (j + 1) = l.drop (j + 1) := by
        have := congrArg (List.drop 1) hRd
        simpa [List.drop_drop, Nat.add_comm] using this
      have q2' : ¬ R.length ≤ j := by omega
      by_cases e : x.p = id
      · have hb : pk true id x = true := by simpa [pk] using e
        rw [if_pos e] at hst
        repeat (first | refine NV.seq ?_ | refine NV.blk ?_ | refine V.seq rfl ?_ | refine V.block rfl ?_ | refine V.skip rfl ?_ | refine V.ret rfl ?_ | refine NV.nil ?_ | refine NV.loop ?_ | refine V.exit rfl ?_ | refine XV.seq ?_ | refine XV.loop ?_ | refine XV.hit ?_ | refine XV.pass (by decide) ?_ | refine V.condT rfl (by rfl) ?_ | refine V.condF rfl (by rfl) ?_ | refine V.region tm df_specs_ok rfl (by conv => lhs; simp [h1, h2, cB, pB, q1, q2, q2', hRx, Pl.cells, hb, hw]) fun _ => ?_ | refine V.regionD tm df_specs_ok rfl (by conv => lhs; simp [h1, h2, cB, pB, q1, q2, q2', hRx, Pl.cells, hb, hw]) (by conv => lhs; simp) (by kernel_rfl) fun _ => ?_)
        exact ⟨⟨(j + 1, R, _), by dsimp only; omega, hlt, hRl, by dsimp only; rw [hst]; exact hRt, hRd', by simp [lk_st, h1, pB], by simp [lk_st, h2, cB]⟩, by dsimp only; omega, AS.le_of rfl ⟨rfl, rfl, by dsimp only; rw [hst]; rfl, rfl, trivial⟩ (fun _ => rfl)⟩
      · have hb : pk true id x = false := by simpa [pk] using e
        rw [if_neg e] at hst
        generalize hF : vac (l.take j) id = F at hRt hvl hst ⊢
        have w1 : IntKind.i64.wrap ((F.length : Int) + 1) = ((F.length + 1 : Nat) : Int) := w64 (by omega) (by omega)
        have q3 : F.length < R.length := by omega
        have q3' : F.length < l.length := by omega
        have q4 : (F.length : Int) < l.length := by omega
        obtain ⟨y, hy⟩ := get_lt q3
        have q5 : ¬ R.length ≤ F.length := by omega
        have hset : (R.map Pl.cells).set F.length [.int .u64 x.p, .int .i64 x.n] = (R.set F.length x).map Pl.cells := by rw [List.map_set]; rfl
        repeat (first | refine NV.seq ?_ | refine NV.blk ?_ | refine V.seq rfl ?_ | refine V.block rfl ?_ | refine V.skip rfl ?_ | refine V.ret rfl ?_ | refine NV.nil ?_ | refine NV.loop ?_ | refine V.exit rfl ?_ | refine XV.seq ?_ | refine XV.loop ?_ | refine XV.hit ?_ | refine XV.pass (by decide) ?_ | refine V.condT rfl (by rfl) ?_ | refine V.condF rfl (by rfl) ?_ | refine V.region tm df_specs_ok rfl (by conv => lhs; simp [h1, h2, cB, pB, q1, q2, q2', hRx, Pl.cells, hb, hw, w1, q3', q4, q5, hy]) fun _ => ?_ | refine V.regionD tm df_specs_ok rfl (by conv => lhs; simp [h1, h2, cB, pB, q1, q2, q2', hRx, Pl.cells, hb, hw, w1, q3', q4, q5, hy]) (by conv => lhs; simp) (by kernel_rfl) fun _ => ?_)
        refine ⟨⟨(j + 1, R.set F.length x, _), by dsimp only; omega, hlt, by simp [hRl], ?_, ?_, by simp [lk_st, pB, Pl.cells], by simp [lk_st, h2, cB]⟩, by dsimp only; omega, AS.le_of rfl ⟨rfl, rfl, by dsimp only; rw [hst]; simp [lk], rfl, trivial⟩ (fun _ => rfl)⟩
        · dsimp only
          rw [hst, List.length_append, List.length_singleton, List.take_add_one, List.take_set_of_le (Nat.le_refl _), hRt]
          simp [q3]
        · dsimp only
          rw [List.drop_set_of_lt (by omega), hRd']
end Go.Abs.Po
namespace Go.Abs.Po
open Go Go.Proofs Go.Abs
set_option maxRecDepth 100000
set_option maxHeartbeats 4000000
set_option linter.unusedSimpArgs false
set_option linter.unusedVariables false
theorem capI {n : Nat} (h : n ≤ 200) : n ≤ 9223372036854775807 := by omega
theorem capB16 {n : Nat} (h : n ≤ 200) : n * 16 ≤ 140737488355328 := by omega
attribute [local simp] runL stepA execA_eq skipA run_ret run_fail run_get run_put run_asm num lk st lk_st putA AS.ev ofValue ofFlat mkv splice fieldAddrA buildA fillA runF gdst pickA unOpA extractA resVs resV pack frzT inlT inlV frzV frzVs frzL frz1 newId AV.cellsOf AV.flat AV.flat2 specOf loadA_runR capA copyA copyTo srcA sliceCA slice3A appendZA extA AV.place lenCA clearA clearTo expG expB3 List.zipWith renL fF handB renB AV.ren backF backL idsOf freshIds refsL refsB AV.refs List.range List.range.loop placesA sliceRows rowsOf convertA sliceArrA sliceA bndA nilCheckA arrayAtA mmA lookupA keyOf keyOK findA keyEqA foundA makeMapA mapUpdateA appendA rowsA indexA partA fieldA retE2 frqT frqV frqVs frqL frq1 reachE blkRefs outE nodupE firstE seqO expB2 expF 
def InsI := { x : List Pl × Nat × Pl // x.1.length < 200 ∧ x.2.1 ≤ x.1.length }
def encI (x : InsI) : List AV × List ABlk := ([.sl 0 0 0 x.1.1.length, .int .i64 (x.1.2.1 : Nat), .sl 1 0 0 1], [pB x.1.1, pB [x.1.2.2]])
theorem encI_inj {β : Type} {f : InsI → β} : ∀ x y, encI x = encI y → f x = f y := fun x y h => by
  obtain ⟨⟨l, i, t⟩, _⟩ := x
  obtain ⟨⟨l', i', t'⟩, _⟩ := y
  simp only [encI, Prod.mk.injEq, List.cons.injEq, AV.int.injEq, true_and, and_true, Int.natCast_inj] at h
  obtain ⟨⟨_, rfl⟩, h1, h2⟩ := h
  obtain rfl := pB_inj h1
  have := pB_inj h2
  simp only [List.cons.injEq, and_true] at this
  subst this
  rfl
def insP (l : List Pl) (i : Nat) (t : Pl) : List Pl := l.take i ++ t :: l.drop i
noncomputable def insS : SpecFn := mkS2 encI fun x => (.sl 0 1 0 (x.1.1.length + 1), [pB1 (insP x.1.1 x.1.2.1 x.1.2.2), pB [x.1.2.2]])
theorem ovlB84 : ovlB Try.prog 84 = true := by kernel_rfl
theorem ovlT84 : ovlT Try.prog 84 = some (34, 2) := by kernel_rfl
theorem ins_grow {α : Type} {l : List α} {n i : Nat} {t z : α} (hn : l.length = n) (hi : i ≤ l.length) :
    List.take (i + 1) (List.take i l ++ t :: List.replicate (n - i) z) ++ (List.take (n - i) (List.take (n - i) (List.drop i l)) ++ List.drop (i + 1 + (n - i)) (List.take i l ++ t :: List.replicate (n - i) z)) = List.take i l ++ t :: List.drop i l := by
  subst hn
  have h1 : (List.take i l).length = i := by rw [List.length_take]; omega
  have h2 : (List.drop i l).length = l.length - i := List.length_drop
  generalize List.take i l = A at h1 ⊢
  generalize List.drop i l = B at h2 ⊢
  subst h1
  rw [List.take_append, List.drop_append, List.take_of_length_le (Nat.le_succ _), show A.length + 1 - A.length = 1 from by omega, List.take_succ_cons, List.take_zero,
    List.drop_of_length_le (by omega), List.nil_append, show A.length + 1 + (l.length - A.length) - A.length = (l.length - A.length) + 1 from by omega, List.drop_succ_cons, List.drop_of_length_le (by simp),
    List.append_nil, List.take_take, Nat.min_self, List.take_of_length_le (by omega), List.append_assoc]
  rfl
theorem ins_place {α : Type} {l : List α} {i : Nat} {X : List α} (hi : i ≤ l.length) : List.take i (List.take (i + 1) l ++ List.drop i l) ++ X = List.take i l ++ X := by
  congr 1
  rw [List.take_append, List.take_take, Nat.min_eq_left (Nat.le_succ i), show i - (List.take (i + 1) l).length = 0 from by rw [List.length_take]; omega, List.take_zero, List.append_nil]
theorem insert_ok : FnC Try.prog 68 insS := by
  refine FnC.walkMV 68 (fn := Try.f68) Try.func68 rfl (by kernel_rfl) (fun x b hb => by simp [encI] at hb; rcases hb with rfl | rfl <;> rfl) fun x => ?_
  obtain ⟨⟨l, i, t⟩, hl, hi⟩ := x
  dsimp only at hl hi
  change V _ (RetM _ _ 2 _ _) _ _ ⟨95, [(0, .sl 0 0 0 l.length), (1, .int .i64 (i : Nat)), (2, .sl 1 0 0 1)], [(0, pB l), (1, pB [t])]⟩
  have hl' : l.length + 1 ≤ 200 := hl
  have hl2 : l.length ≤ 200 := by omega
  by_cases hin : i = l.length
  · subst hin
    repeat (first | refine NV.seq ?_ | refine NV.blk ?_ | refine V.seq rfl ?_ | refine V.block rfl ?_ | refine V.skip rfl ?_ | refine V.ret rfl ?_ | refine NV.nil ?_ | refine NV.loop ?_ | refine V.exit rfl ?_ | refine XV.seq ?_ | refine XV.loop ?_ | refine XV.hit ?_ | refine XV.pass (by decide) ?_ | refine V.condT rfl (by rfl) ?_ | refine V.condF rfl (by rfl) ?_ | refine V.region tm no_specs rfl (by conv => lhs; simp [capI hl', capB16 hl', maxLen, pB, capI hl2, capB16 hl2]) fun _ => ?_ | refine V.regionD tm no_specs rfl (by conv => lhs; simp [capI hl', capB16 hl', maxLen, pB, capI hl2, capB16 hl2]) (by conv => lhs; simp) (by kernel_rfl) fun _ => ?_)
    refine retM2_ok false [0, 1] [1, 0] ?_
    simp [retM2, movedOK, oldOK, frqT, frqV, frqVs, frqL, frq1, expG, expB3, renB, AV.ren, renL, List.range, List.range.loop, resVs, resV, pack, List.zipWith, List.idxOf?, List.findIdx?, List.findIdx?.go, insP, pB1, pB]
  · have hlt : i < l.length := by omega
    have e1 : ((i : Int) == (l.length : Int)) = false := by simpa using fun h => hin (by omega)
    refine V.caps (t := 0) rfl rfl rfl fun cap hc1 hc2 => ?_
    have hic : i ≤ cap := by omega
    have hwi : IntKind.i64.wrap ((i : Int) + 1) = ((i + 1 : Nat) : Int) := by rw [show (i : Int) + 1 = ((i + 1 : Nat) : Int) from by omega]; exact w64 (by omega) (by omega)
    have hw : IntKind.i64.wrap ((l.length : Int) + 1) = (l.length : Int) + 1 := w64 (by omega) (by omega)
    have hw2 : IntKind.i64.wrap ((l.length : Int) + 1 - i) = ((l.length + 1 - i : Nat) : Int) := by rw [show (l.length : Int) + 1 - i = ((l.length + 1 - i : Nat) : Int) from by omega]; exact w64 (by omega) (by omega)
    by_cases hcap : cap < l.length + 1
    · have hcap' : (cap : Int) < l.length + 1 := by omega
      have n1 : i + (l.length + 1 - i) = l.length + 1 := by omega
      have n3 : i ≤ l.length + 1 := by omega
      have n4 : 0 < l.length + 1 - i := by omega
      have n5 : min i l.length = i := by omega
      have n6 : List.take (l.length + 1 - i) [t.cells] = [t.cells] := List.take_of_length_le (by simp; omega)
      have n7 : min (l.length + 1 - i) 1 = 1 := by omega
      have n8 : List.drop (i + 1) (List.take i (List.map Pl.cells l) ++ List.replicate (l.length + 1 - i) [AV.int .u64 0, AV.int .i64 0]) = List.replicate (l.length - i) [AV.int .u64 0, AV.int .i64 0] := by
        rw [List.drop_append, List.drop_of_length_le (by simp; omega)]
        simp only [List.length_take, List.length_map, n5, List.nil_append, List.drop_replicate]
        congr 1
        omega
      have n9 : l.length ≤ i + (l.length - i) := by omega
      have n10 : (0 : Int) ≤ (i : Int) + 1 := by omega
      repeat (first | refine NV.seq ?_ | refine NV.blk ?_ | refine V.seq rfl ?_ | refine V.block rfl ?_ | refine V.skip rfl ?_ | refine V.ret rfl ?_ | refine NV.nil ?_ | refine NV.loop ?_ | refine V.exit rfl ?_ | refine XV.seq ?_ | refine XV.loop ?_ | refine XV.hit ?_ | refine XV.pass (by decide) ?_ | refine V.condT rfl (by rfl) ?_ | refine V.condF rfl (by rfl) ?_ | refine V.region tm no_specs rfl (by conv => lhs; simp [capI hl', capB16 hl', maxLen, pB, capI hl2, capB16 hl2, e1, hi, hc1, hic, hcap, hcap', hw, hw2, n1, n3, n4, n5, n6, n7, n8, hwi, n9, n10]) fun _ => ?_ | refine V.regionD tm no_specs rfl (by conv => lhs; simp [capI hl', capB16 hl', maxLen, pB, capI hl2, capB16 hl2, e1, hi, hc1, hic, hcap, hcap', hw, hw2, n1, n3, n4, n5, n6, n7, n8, hwi, n9, n10]) (by conv => lhs; simp) (by kernel_rfl) fun _ => ?_)
      refine retM2_ok false [656, 1] [1, 0] ?_
      simp [retM2, movedOK, oldOK, frqT, frqV, frqVs, frqL, frq1, expG, expB3, renB, AV.ren, renL, List.range, List.range.loop, resVs, resV, pack, List.zipWith, List.idxOf?, List.findIdx?, List.findIdx?.go, insP, pB1, pB]
      exact ins_grow (by simp) (by simpa using hi)
    · have hcap' : ¬ (cap : Int) < l.length + 1 := by omega
      have hcap2 : l.length + 1 ≤ cap := by omega
      have n3 : i ≤ l.length + 1 := by omega
      have n9 : l.length ≤ i + (l.length - i) := by omega
      have n10 : (0 : Int) ≤ (i : Int) + 1 := by omega
      have hw3 : (0 : Int) ≤ (l.length : Int) + 1 := by omega
      have n12 : i + 1 ≤ l.length := hlt
      have n11 : min (l.length - i) (l.length + 1 - i) = l.length - i := by omega
      have n6 : List.take (l.length + 1 - i) [t.cells] = [t.cells] := List.take_of_length_le (by simp; omega)
      have n7 : min (l.length + 1 - i) 1 = 1 := by omega
      have n13 : List.take (l.length - i) (List.take (l.length - i) (List.drop i (List.map Pl.cells l))) = List.drop i (List.map Pl.cells l) := by
        rw [List.take_take, Nat.min_self, List.take_of_length_le (by simp)]
      have n14 : List.drop (i + 1 + (l.length - i)) (List.map Pl.cells l) = [] := List.drop_of_length_le (by simp; omega)
      have n15 : i ≤ i + 1 + (l.length - i) := by omega
      repeat (first | refine NV.seq ?_ | refine NV.blk ?_ | refine V.seq rfl ?_ | refine V.block rfl ?_ | refine V.skip rfl ?_ | refine NV.nil ?_ | refine NV.loop ?_ | refine V.exit rfl ?_ | refine XV.seq ?_ | refine XV.loop ?_ | refine XV.hit ?_ | refine XV.pass (by decide) ?_ | refine V.condT rfl (by rfl) ?_ | refine V.condF rfl (by rfl) ?_ | refine V.region tm no_specs rfl (by conv => lhs; simp [capI hl', capB16 hl', maxLen, pB, capI hl2, capB16 hl2, e1, hi, hc1, hic, hcap, hcap', hw, hw2, n3, hwi, n9, n10, hcap2, hw3, ovlB84, ovlT84, n11, n12, n6, n7, n13, n14, n15]) fun _ => ?_ | refine V.regionD tm no_specs rfl (by conv => lhs; simp [capI hl', capB16 hl', maxLen, pB, capI hl2, capB16 hl2, e1, hi, hc1, hic, hcap, hcap', hw, hw2, n3, hwi, n9, n10, hcap2, hw3, ovlB84, ovlT84, n11, n12, n6, n7, n13, n14, n15]) (by conv => lhs; simp) (by kernel_rfl) fun _ => ?_)
      refine V.uncap (t := 6) rfl ?_
      repeat (first | refine NV.seq ?_ | refine NV.blk ?_ | refine V.seq rfl ?_ | refine V.block rfl ?_ | refine V.skip rfl ?_ | refine V.ret rfl ?_ | refine NV.nil ?_ | refine NV.loop ?_ | refine V.exit rfl ?_ | refine XV.seq ?_ | refine XV.loop ?_ | refine XV.hit ?_ | refine XV.pass (by decide) ?_ | refine V.condT rfl (by rfl) ?_ | refine V.condF rfl (by rfl) ?_ | refine V.region tm no_specs rfl (by conv => lhs; simp) fun _ => ?_ | refine V.regionD tm no_specs rfl (by conv => lhs; simp) (by conv => lhs; simp) (by kernel_rfl) fun _ => ?_)
      refine retM2_ok false [0, 1] [1, 0] ?_
      simp [retM2, movedOK, oldOK, frqT, frqV, frqVs, frqL, frq1, expG, expB3, renB, AV.ren, renL, List.range, List.range.loop, resVs, resV, pack, List.zipWith, List.idxOf?, List.findIdx?, List.findIdx?.go, insP, pB1, pB]
      simpa using ins_place (l := List.map Pl.cells l) (i := i) (X := []) (by simpa using hi)
end Go.Abs.Po
namespace Go.Abs.Po
open Go Go.Proofs Go.Abs
set_option maxRecDepth 100000
set_option maxHeartbeats 4000000
set_option linter.unusedSimpArgs false
set_option linter.unusedVariables false
/-! ### Without one -/
noncomputable def va_specs : NL Spec := [(43, ⟨3, dupS⟩), (82, ⟨3, dfS⟩)]
theorem va_specs_ok : ∀ p ∈ va_specs, FnC Try.prog p.1 p.2.fn := by
  simp only [va_specs, List.mem_cons, List.not_mem_nil, or_false]
  rintro p (rfl | rfl)
  · exact dup_ok
  · exact df_ok
attribute [local simp] runL stepA execA_eq skipA run_ret run_fail run_get run_put run_asm num lk st lk_st putA AS.ev ofValue ofFlat mkv splice fieldAddrA buildA fillA runF gdst pickA unOpA extractA resVs resV pack frzT inlT inlV frzV frzVs frzL frz1 newId AV.cellsOf AV.flat AV.flat2 specOf loadA_runR capA copyA copyTo srcA sliceCA slice3A appendZA extA AV.place lenCA clearA clearTo expG expB3 List.zipWith renL fF handB renB AV.ren backF backL idsOf freshIds refsL refsB AV.refs List.range List.range.loop placesA sliceRows rowsOf convertA sliceArrA sliceA bndA nilCheckA arrayAtA mmA lookupA keyOf keyOK findA keyEqA foundA makeMapA mapUpdateA appendA rowsA indexA partA fieldA retE2 frqT frqV frqVs frqL frq1 reachE blkRefs outE nodupE firstE seqO expB2 expF instA take_len_map List.findIdx?_cons List.findIdx?_nil va_specs
def encWI (x : Wt × Int) : List AV × List ABlk := ([.agg (vA x.1.view x.1.nodes (.list 2 (x.1.pl.map Pl.cells))), .int .u64 x.2], [])
theorem encWI_inj {β : Type} {f : Wt × Int → β} : ∀ x y, encWI x = encWI y → f x = f y := fun x y h => by
  simp only [encWI, Prod.mk.injEq, List.cons.injEq, AV.agg.injEq, AV.int.injEq, true_and, and_true] at h
  rw [Prod.ext (Wt.inj _ _ h.1) h.2]
noncomputable def vacS : SpecFn := mkS2 encWI fun x => (.agg [.int .i64 x.1.view, .sl 0 0 0 x.1.nodes.length, .nils, .sl 1 0 0 (vac x.1.pl x.2).length, .nils, .nils], [nB x.1.nodes, pB (vac x.1.pl x.2)])
theorem vacS_eq (view : Int) (nodes : List Int) (pl : List Pl) (id : Int) (hn : nodes.length ≤ 8) (hl : pl.length ≤ 200) :
    vacS [.agg [.int .i64 view, .list 1 (nodes.map ic), .nils, .list 2 (pl.map Pl.cells), .nils, .nils], .int .u64 id] [] = some (.agg [.int .i64 view, .sl 0 0 0 nodes.length, .nils, .sl 1 0 0 (vac pl id).length, .nils, .nils], [nB nodes, pB (vac pl id)]) := mkS2_eq (enc := encWI) encWI_inj (⟨view, nodes, pl, hn, hl⟩, id)
theorem vac_ok : FnC Try.prog 67 vacS := by
  refine FnC.walkMV 67 (fn := Try.f67) Try.func67 rfl (by kernel_rfl) (fun x b hb => by simp [encWI] at hb) fun x => ?_
  obtain ⟨⟨view, nodes, pl, hn, hl⟩, id⟩ := x
  change V _ (RetM _ _ 0 (.agg [.int .i64 view, .sl 0 0 0 nodes.length, .nils, .sl 1 0 0 (vac pl id).length, .nils, .nils]) [nB nodes, pB (vac pl id)]) _ _ ⟨13, [(0, .agg (vA view nodes (.list 2 (pl.map Pl.cells)))), (1, .int .u64 id)], []⟩
  have h1 := dupS_eq view nodes pl hn hl
  have h2 := dfS_eq pl hl id
  simp only [nB, pB] at h1
  by_cases e : fidx (pk true id) pl = -1
  · rw [if_pos e] at h2
    simp only [pB, cB] at h2
    rw [vac_self e]
    repeat (first | refine NV.seq ?_ | refine NV.blk ?_ | refine V.seq rfl ?_ | refine V.block rfl ?_ | refine V.skip rfl ?_ | refine V.ret rfl ?_ | refine NV.nil ?_ | refine NV.loop ?_ | refine V.exit rfl ?_ | refine XV.seq ?_ | refine XV.loop ?_ | refine XV.hit ?_ | refine XV.pass (by decide) ?_ | refine V.condT rfl (by rfl) ?_ | refine V.condF rfl (by rfl) ?_ | refine V.region tm va_specs_ok rfl (by conv => lhs; simp [vA, h1, h2, pB, cB]) fun _ => ?_ | refine V.regionD tm va_specs_ok rfl (by conv => lhs; simp [vA, h1, h2, pB, cB]) (by conv => lhs; simp) (by kernel_rfl) fun _ => ?_)
    simp only [nB, pB]
    refine retM2_ok false [112, 113] [0, 0] ?_
    simp [retM2, movedOK, oldOK, frqT, frqV, frqVs, frqL, frq1, expG, expB3, renB, AV.ren, renL, List.range, List.range.loop, resVs, resV, pack, List.zipWith, List.idxOf?, List.findIdx?, List.findIdx?.go]
  · rw [if_neg e] at h2
    simp only [pB, pB1, cB] at h2
    repeat (first | refine NV.seq ?_ | refine NV.blk ?_ | refine V.seq rfl ?_ | refine V.block rfl ?_ | refine V.skip rfl ?_ | refine V.ret rfl ?_ | refine NV.nil ?_ | refine NV.loop ?_ | refine V.exit rfl ?_ | refine XV.seq ?_ | refine XV.loop ?_ | refine XV.hit ?_ | refine XV.pass (by decide) ?_ | refine V.condT rfl (by rfl) ?_ | refine V.condF rfl (by rfl) ?_ | refine V.region tm va_specs_ok rfl (by conv => lhs; simp [vA, h1, h2, pB, cB]) fun _ => ?_ | refine V.regionD tm va_specs_ok rfl (by conv => lhs; simp [vA, h1, h2, pB, cB]) (by conv => lhs; simp) (by kernel_rfl) fun _ => ?_)
    simp only [nB, pB]
    refine retM2_ok false [112, 113] [0, 0] ?_
    simp [retM2, movedOK, oldOK, frqT, frqV, frqVs, frqL, frq1, expG, expB3, renB, AV.ren, renL, List.range, List.range.loop, resVs, resV, pack, List.zipWith, List.idxOf?, List.findIdx?, List.findIdx?.go]
/-! ### With one more -/
theorem less_eq : ∀ {L : List Pl} {id : Int} {k : Nat}, (∀ i y, i < k → L[i]? = some y → y.p < id) → k ≤ L.length → (∀ y, L[k]? = some y → ¬ y.p < id) → less L id = k := by
  intro L id
  induction L with
  | nil => intro k _ hk _; simp at hk; subst hk; rfl
  | cons a r ih =>
    intro k h hk h'
    cases k with
    | zero =>
      have : ¬ a.p < id := h' a rfl
      simp [less, List.takeWhile_cons, this]
    | succ k =>
      have ha : a.p < id := h 0 a (by omega) rfl
      have e : less (a :: r) id = less r id + 1 := by simp [less, List.takeWhile_cons, ha]
      rw [e, ih (k := k) (fun i y hi hy => h (i + 1) y (by omega) (by simpa using hy)) (by simpa using hk) (fun y hy => h' y (by simpa using hy))]
theorem fnd_less (pl : List Pl) (id : Int) : (fnd (vac pl id) id).1 = (less (vac pl id) id : Nat) := by
  have hno : ∀ (i : Nat) y, (vac pl id)[i]? = some y → y.p ≠ id := fun i y hy => by
    have := List.mem_of_getElem? hy
    simp only [vac, List.mem_filter, Bool.not_eq_true', beq_eq_false_iff_ne] at this
    exact this.2
  generalize vac pl id = L at hno
  have h1 : fidx (pk true id) L = -1 := by
    rcases fidx_cases (pk true id) L with ⟨h, _⟩ | ⟨k, x, _, hx, hp, _⟩
    · exact h
    · exact absurd (by simpa [pk] using hp) (hno k x hx)
  unfold fnd
  rw [h1, if_neg (by decide)]
  rcases fidx_cases (pk false id) L with ⟨h, h'⟩ | ⟨k, x, h, hx, hp, hb⟩
  · rw [h, if_neg (by decide)]
    have : less L id = L.length := less_eq (fun i y _ hy => by
      have a := h' i y hy
      have b := hno i y hy
      simp [pk] at a
      omega) (Nat.le_refl _) (fun y hy => by simp at hy)
    rw [this]
  · rw [h, if_pos (by omega)]
    have : less L id = k := less_eq (fun i y hi hy => by
      have a := hb i y hi hy
      have b := hno i y hy
      simp [pk] at a
      omega) (Nat.le_of_lt (List.getElem?_eq_some_iff.1 hx).1) (fun y hy => by
      rw [hx] at hy
      cases hy
      simp [pk] at hp
      omega)
    rw [this]
noncomputable def as_specs : NL Spec := [(43, ⟨1, dup2S⟩), (67, ⟨3, vacS⟩), (56, ⟨3, fndS⟩), (68, ⟨3, insS⟩)]
theorem as_specs_ok : ∀ p ∈ as_specs, FnC Try.prog p.1 p.2.fn := by
  simp only [as_specs, List.mem_cons, List.not_mem_nil, or_false]
  rintro p (rfl | rfl | rfl | rfl)
  · exact dup2_ok
  · exact vac_ok
  · exact find_ok
  · exact insert_ok
attribute [local simp] as_specs
theorem insS_eq (l : List Pl) (i : Nat) (p n : Int) (h : l.length < 200) (hi : i ≤ l.length) : insS [.sl 0 0 0 l.length, .int .i64 (i : Nat), .sl 1 0 0 1] [{ gen := 0, kind := 2, elem := 57, size := 2, inl := true, rows := l.map Pl.cells }, { gen := 0, kind := 2, elem := 57, size := 2, inl := true, rows := [[.int .u64 p, .int .i64 n]] }] =
    some (.sl 0 1 0 (l.length + 1), [pB1 (insP l i ⟨p, n⟩), pB [⟨p, n⟩]]) := mkS2_eq (enc := encI) encI_inj ⟨(l, i, ⟨p, n⟩), h, hi⟩
def Vs := { x : Vt // x.pl.length ≤ 190 }
def encVs (x : Vs × Int × Int) : List AV × List ABlk := ([x.1.1.av, .int .u64 x.2.1, .int .i64 x.2.2], [])
theorem encVs_inj {β : Type} {f : Vs × Int × Int → β} : ∀ x y, encVs x = encVs y → f x = f y := fun x y h => by
  simp only [encVs, Prod.mk.injEq, List.cons.injEq, AV.int.injEq, true_and, and_true] at h
  rw [Prod.ext (Subtype.ext (Vt.inj _ _ h.1)) (Prod.ext h.2.1 h.2.2)]
noncomputable def asgS : SpecFn := mkS2 encVs fun x => (.agg (vA x.1.1.view x.1.1.nodes (plL (asg x.1.1.pl x.2.1 x.2.2))), [])
theorem asgS_eq (view : Int) (nodes : List Int) (P : AV) (pl : List Pl) (id n : Int) (hP : IsP P pl) (hn : nodes.length ≤ 8) (hl : pl.length ≤ 190) :
    asgS [.agg [.int .i64 view, .list 1 (nodes.map ic), .nils, P, .nils, .nils], .int .u64 id, .int .i64 n] [] = some (.agg [.int .i64 view, .list 1 (nodes.map ic), .nils, .list 2 ((asg pl id n).map Pl.cells), .nils, .nils], []) :=
  mkS2_eq (enc := encVs) encVs_inj (⟨⟨view, nodes, P, pl, hP, hn, by omega⟩, hl⟩, id, n)
theorem asg_ok : FnC Try.prog 44 asgS := by
  refine FnC.walkV 44 (fn := Try.f44) Try.func44 rfl (by kernel_rfl) (fun x b hb => by simp [encVs] at hb) fun x => ?_
  obtain ⟨⟨⟨view, nodes, P, pl, hP, hn, hl⟩, hl9⟩, id, n⟩ := x
  dsimp only at hl9
  dsimp only
  refine V.weak (σ' := ⟨33, [(0, .agg (vA view nodes (.list 2 (pl.map Pl.cells)))), (1, .int .u64 id), (2, .int .i64 n)], []⟩) (le_head (vA_weak hP.weak)) ?_
  change V _ (RetB _ _ 0 (.agg (vA view nodes (plL (asg pl id n)))) _) _ _ _
  clear hP P
  by_cases h0 : id = 0
  · have hb : (id == 0) = true := by simpa using h0
    have ha : asg pl id n = pl := by rw [asg, if_pos h0]
    have hd := dup2S_eq view nodes pl hn hl
    rw [ha]
    repeat (first | refine NV.seq ?_ | refine NV.blk ?_ | refine V.seq rfl ?_ | refine V.block rfl ?_ | refine V.skip rfl ?_ | refine V.ret rfl ?_ | refine NV.nil ?_ | refine NV.loop ?_ | refine V.exit rfl ?_ | refine XV.seq ?_ | refine XV.loop ?_ | refine XV.hit ?_ | refine XV.pass (by decide) ?_ | refine V.condT rfl (by rfl) ?_ | refine V.condF rfl (by rfl) ?_ | refine V.region tm as_specs_ok rfl (by conv => lhs; simp [vA, hb, hd]) fun _ => ?_ | refine V.regionD tm as_specs_ok rfl (by conv => lhs; simp [vA, hb, hd]) (by conv => lhs; simp) (by kernel_rfl) fun _ => ?_)
    simp only [vA, plL]
    first | exact retE2_ok true (by conv => lhs; simp [retE2, frqT, frqV, frqVs, frqL, frq1, reachE, blkRefs, outE, nodupE, firstE, seqO, expB2, expF, refsB, refsL, AV.refs, AV.ren, renL, renB, List.range, List.range.loop, resVs, resV, pack]) | fail "no return here"
  · have hb : (id == 0) = false := by simpa using h0
    have hv := vacS_eq view nodes pl id hn hl
    have ha : asg pl id n = put (vac pl id) id n := by rw [asg, if_neg h0]
    have hL : (vac pl id).length ≤ 200 := Nat.le_trans (vac_len pl id) hl
    have h200 : (vac pl id).length < 200 := by have := vac_len pl id; omega
    have hf := fnd_less pl id
    rw [ha]
    generalize vac pl id = L at hv hL hf h200 ⊢
    have hF := fndS_b L hL id
    have hm := less_le L id
    obtain ⟨k, hk⟩ : ∃ k, less L id = k := ⟨_, rfl⟩
    rw [hf] at hF
    have hput : put L id n = insP L (less L id) ⟨id, n⟩ := rfl
    rw [hput]
    rw [hk] at hF hm ⊢
    generalize (fnd L id).2 = bb at hF
    simp only [nB, pB] at hv hF
    have hI := insS_eq L k id n h200 hm
    have hil : (insP L k ⟨id, n⟩).length = L.length + 1 := by simp [insP]; omega
    simp only [pB1, pB, List.map_cons, List.map_nil, Pl.cells] at hI
    repeat (first | refine NV.seq ?_ | refine NV.blk ?_ | refine V.seq rfl ?_ | refine V.block rfl ?_ | refine V.skip rfl ?_ | refine V.ret rfl ?_ | refine NV.nil ?_ | refine NV.loop ?_ | refine V.exit rfl ?_ | refine XV.seq ?_ | refine XV.loop ?_ | refine XV.hit ?_ | refine XV.pass (by decide) ?_ | refine V.condT rfl (by rfl) ?_ | refine V.condF rfl (by rfl) ?_ | refine V.region tm as_specs_ok rfl (by conv => lhs; simp [vA, hb, hv, hF, hI, maxLen]) fun _ => ?_ | refine V.regionD tm as_specs_ok rfl (by conv => lhs; simp [vA, hb, hv, hF, hI, maxLen]) (by conv => lhs; simp) (by kernel_rfl) fun _ => ?_)
    generalize insP L k ⟨id, n⟩ = M at hil
    have ht : List.take (L.length + 1) (M.map Pl.cells) = M.map Pl.cells := List.take_of_length_le (by simp [hil])
    have hle : L.length + 1 ≤ M.length := by omega
    simp only [vA, plL]
    first | exact retE2_ok true (by conv => lhs; simp [retE2, frqT, frqV, frqVs, frqL, frq1, reachE, blkRefs, outE, nodupE, firstE, seqO, expB2, expF, refsB, refsL, AV.refs, AV.ren, renL, renB, List.range, List.range.loop, resVs, resV, pack, ht, hle]) | fail "no return here"
end Go.Abs.Po
