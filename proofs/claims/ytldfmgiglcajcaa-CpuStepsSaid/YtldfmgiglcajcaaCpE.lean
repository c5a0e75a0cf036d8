/- What the functions of the operations compute. Conditions: none. -/
import Derived.Test.YtldfmgiglcajcaaCpD
namespace Go.Abs.Cp
open Go Go.Proofs Go.Abs
set_option maxRecDepth 100000
set_option maxHeartbeats 4000000
set_option linter.unusedSimpArgs false
set_option linter.unusedVariables false
def b2i (b : Bool) : Int := if b then 1 else 0
def encB (b : Bool) : List AV := [.bool b]
noncomputable def flagS : SpecFn := mkS encB fun b => (.int .i64 (b2i b), [])
theorem flagS_eq (b : Bool) : flagS [.bool b] [] = some (.int .i64 (b2i b), []) := mkS_eq (enc := encB) (fun x y h => by simp [encB] at h; rw [h]) b
attribute [local simp] runL stepA execA_eq skipA run_ret run_fail run_get run_put run_asm num lk st lk_st putA AS.ev ofValue ofFlat mkv splice fieldAddrA buildA fillA runF gdst pickA unOpA extractA resVs resV pack frzT inlT inlV frzV frzVs frzL frz1 newId AV.cellsOf AV.flat AV.flat2 specOf loadA_runR renL fF handB renB AV.ren backF backL idsOf freshIds refsL refsB AV.refs List.range List.range.loop placesA sliceRows rowsOf convertA sliceArrA sliceA bndA nilCheckA arrayAtA mmA lookupA keyOf keyOK findA keyEqA foundA makeMapA mapUpdateA appendA rowsA indexA partA fieldA retE2 frqT frqV frqVs frqL frq1 reachE blkRefs outE nodupE firstE seqO expB2 expF inlT inlV
theorem flag_ok : FnC Try.prog 39 flagS := by
  refine FnC.walk 39 (fn := Try.f39) Try.func39 rfl (by kernel_rfl) fun b => ?_
  change W _ _ _ _ ⟨4, [(0, .bool b)], []⟩
  cases b
  all_goals
    repeat (first | refine N.seq ?_ | refine N.blk ?_ | refine W.seq rfl ?_ | refine W.block rfl ?_ | refine W.skip rfl ?_ | refine W.ret rfl ?_ | refine N.nil ?_ | refine N.loop ?_ | refine W.exit rfl ?_ | refine X.seq ?_ | refine X.loop ?_ | refine X.hit ?_ | refine X.pass (by decide) ?_ | refine W.condT rfl (by rfl) ?_ | refine W.condF rfl (by rfl) ?_ | refine W.region tm no_specs rfl (by conv => lhs; simp) fun _ => ?_ | refine W.regionD tm no_specs rfl (by conv => lhs; simp) (by conv => lhs; simp) (by kernel_rfl) fun _ => ?_)
    simp only [b2i, Bool.false_eq_true, if_true, if_false]
    first | exact Ret.dataR rfl (by conv => lhs; simp) (by conv => lhs; simp) (by first | rfl | simp [inlT, inlV]) | fail "no return here"
theorem truth_ok : FnC Try.prog 41 flagS := by
  refine FnC.walk 41 (fn := Try.f41) Try.func41 rfl (by kernel_rfl) fun b => ?_
  change W _ _ _ _ ⟨4, [(0, .bool b)], []⟩
  cases b
  all_goals
    repeat (first | refine N.seq ?_ | refine N.blk ?_ | refine W.seq rfl ?_ | refine W.block rfl ?_ | refine W.skip rfl ?_ | refine W.ret rfl ?_ | refine N.nil ?_ | refine N.loop ?_ | refine W.exit rfl ?_ | refine X.seq ?_ | refine X.loop ?_ | refine X.hit ?_ | refine X.pass (by decide) ?_ | refine W.condT rfl (by rfl) ?_ | refine W.condF rfl (by rfl) ?_ | refine W.region tm no_specs rfl (by conv => lhs; simp) fun _ => ?_ | refine W.regionD tm no_specs rfl (by conv => lhs; simp) (by conv => lhs; simp) (by kernel_rfl) fun _ => ?_)
    simp only [b2i, Bool.false_eq_true, if_true, if_false]
    first | exact Ret.dataR rfl (by conv => lhs; simp) (by conv => lhs; simp) (by first | rfl | simp [inlT, inlV]) | fail "no return here"
def enc2 (x : Int × Int) : List AV := [.int .i64 x.1, .int .i64 x.2]
noncomputable def opS (f : Int → Int → Int) : SpecFn := mkS enc2 fun x => (.int .i64 (f x.1 x.2), [])
theorem opS_eq (f : Int → Int → Int) (a b : Int) : opS f [.int .i64 a, .int .i64 b] [] = some (.int .i64 (f a b), []) := mkS_eq (enc := enc2) (fun x y h => by simp [enc2] at h; rw [Prod.ext h.1 h.2]) (a, b)
def fAdd (a b : Int) : Int := IntKind.i64.wrap (a + b)
def fSub (a b : Int) : Int := IntKind.i64.wrap (a - b)
def fMul (a b : Int) : Int := IntKind.i64.wrap (a * b)
def fLess (a b : Int) : Int := b2i (decide (a < b))
def fEq (a b : Int) : Int := b2i (a == b)
noncomputable def fl_specs : NL Spec := [(39, ⟨0, flagS⟩)]
theorem fl_specs_ok : ∀ p ∈ fl_specs, FnC Try.prog p.1 p.2.fn := by
  simp only [fl_specs, List.mem_cons, List.not_mem_nil, or_false]
  rintro p rfl
  exact flag_ok
attribute [local simp] fl_specs flagS_eq
theorem add_ok : FnC Try.prog 35 (opS fAdd) := by
  refine FnC.walk 35 (fn := Try.f35) Try.func35 rfl (by kernel_rfl) fun x => ?_
  change W _ _ _ _ ⟨8, [(0, .int .i64 x.1), (1, .int .i64 x.2)], []⟩
  repeat (first | refine N.seq ?_ | refine N.blk ?_ | refine W.seq rfl ?_ | refine W.block rfl ?_ | refine W.skip rfl ?_ | refine W.ret rfl ?_ | refine N.nil ?_ | refine N.loop ?_ | refine W.exit rfl ?_ | refine X.seq ?_ | refine X.loop ?_ | refine X.hit ?_ | refine X.pass (by decide) ?_ | refine W.condT rfl (by rfl) ?_ | refine W.condF rfl (by rfl) ?_ | refine W.region tm fl_specs_ok rfl (by conv => lhs; simp) fun _ => ?_ | refine W.regionD tm fl_specs_ok rfl (by conv => lhs; simp) (by conv => lhs; simp) (by kernel_rfl) fun _ => ?_)
  simp only [fAdd]
  first | exact Ret.dataR rfl (by conv => lhs; simp) (by conv => lhs; simp) (by first | rfl | simp [inlT, inlV]) | fail "no return here"
theorem sub_ok : FnC Try.prog 36 (opS fSub) := by
  refine FnC.walk 36 (fn := Try.f36) Try.func36 rfl (by kernel_rfl) fun x => ?_
  change W _ _ _ _ ⟨8, [(0, .int .i64 x.1), (1, .int .i64 x.2)], []⟩
  repeat (first | refine N.seq ?_ | refine N.blk ?_ | refine W.seq rfl ?_ | refine W.block rfl ?_ | refine W.skip rfl ?_ | refine W.ret rfl ?_ | refine N.nil ?_ | refine N.loop ?_ | refine W.exit rfl ?_ | refine X.seq ?_ | refine X.loop ?_ | refine X.hit ?_ | refine X.pass (by decide) ?_ | refine W.condT rfl (by rfl) ?_ | refine W.condF rfl (by rfl) ?_ | refine W.region tm fl_specs_ok rfl (by conv => lhs; simp) fun _ => ?_ | refine W.regionD tm fl_specs_ok rfl (by conv => lhs; simp) (by conv => lhs; simp) (by kernel_rfl) fun _ => ?_)
  simp only [fSub]
  first | exact Ret.dataR rfl (by conv => lhs; simp) (by conv => lhs; simp) (by first | rfl | simp [inlT, inlV]) | fail "no return here"
theorem mul_ok : FnC Try.prog 37 (opS fMul) := by
  refine FnC.walk 37 (fn := Try.f37) Try.func37 rfl (by kernel_rfl) fun x => ?_
  change W _ _ _ _ ⟨8, [(0, .int .i64 x.1), (1, .int .i64 x.2)], []⟩
  repeat (first | refine N.seq ?_ | refine N.blk ?_ | refine W.seq rfl ?_ | refine W.block rfl ?_ | refine W.skip rfl ?_ | refine W.ret rfl ?_ | refine N.nil ?_ | refine N.loop ?_ | refine W.exit rfl ?_ | refine X.seq ?_ | refine X.loop ?_ | refine X.hit ?_ | refine X.pass (by decide) ?_ | refine W.condT rfl (by rfl) ?_ | refine W.condF rfl (by rfl) ?_ | refine W.region tm fl_specs_ok rfl (by conv => lhs; simp) fun _ => ?_ | refine W.regionD tm fl_specs_ok rfl (by conv => lhs; simp) (by conv => lhs; simp) (by kernel_rfl) fun _ => ?_)
  simp only [fMul]
  first | exact Ret.dataR rfl (by conv => lhs; simp) (by conv => lhs; simp) (by first | rfl | simp [inlT, inlV]) | fail "no return here"
theorem less_ok : FnC Try.prog 38 (opS fLess) := by
  refine FnC.walk 38 (fn := Try.f38) Try.func38 rfl (by kernel_rfl) fun x => ?_
  change W _ _ _ _ ⟨9, [(0, .int .i64 x.1), (1, .int .i64 x.2)], []⟩
  repeat (first | refine N.seq ?_ | refine N.blk ?_ | refine W.seq rfl ?_ | refine W.block rfl ?_ | refine W.skip rfl ?_ | refine W.ret rfl ?_ | refine N.nil ?_ | refine N.loop ?_ | refine W.exit rfl ?_ | refine X.seq ?_ | refine X.loop ?_ | refine X.hit ?_ | refine X.pass (by decide) ?_ | refine W.condT rfl (by rfl) ?_ | refine W.condF rfl (by rfl) ?_ | refine W.region tm fl_specs_ok rfl (by conv => lhs; simp) fun _ => ?_ | refine W.regionD tm fl_specs_ok rfl (by conv => lhs; simp) (by conv => lhs; simp) (by kernel_rfl) fun _ => ?_)
  simp only [fLess]
  first | exact Ret.dataR rfl (by conv => lhs; simp) (by conv => lhs; simp) (by first | rfl | simp [inlT, inlV]) | fail "no return here"
theorem eql_ok : FnC Try.prog 40 (opS fEq) := by
  refine FnC.walk 40 (fn := Try.f40) Try.func40 rfl (by kernel_rfl) fun x => ?_
  change W _ _ _ _ ⟨9, [(0, .int .i64 x.1), (1, .int .i64 x.2)], []⟩
  repeat (first | refine N.seq ?_ | refine N.blk ?_ | refine W.seq rfl ?_ | refine W.block rfl ?_ | refine W.skip rfl ?_ | refine W.ret rfl ?_ | refine N.nil ?_ | refine N.loop ?_ | refine W.exit rfl ?_ | refine X.seq ?_ | refine X.loop ?_ | refine X.hit ?_ | refine X.pass (by decide) ?_ | refine W.condT rfl (by rfl) ?_ | refine W.condF rfl (by rfl) ?_ | refine W.region tm fl_specs_ok rfl (by conv => lhs; simp) fun _ => ?_ | refine W.regionD tm fl_specs_ok rfl (by conv => lhs; simp) (by conv => lhs; simp) (by kernel_rfl) fun _ => ?_)
  simp only [fEq]
  first | exact Ret.dataR rfl (by conv => lhs; simp) (by conv => lhs; simp) (by first | rfl | simp [inlT, inlV]) | fail "no return here"
def fnBlk : ABlk := { gen := 0, kind := 3, elem := 0, size := 0, inl := false, rows := [[.int .i64 3, .fn (.func 35) [] []], [.int .i64 4, .fn (.func 36) [] []], [.int .i64 5, .fn (.func 37) [] []], [.int .i64 6, .fn (.func 38) [] []], [.int .i64 7, .fn (.func 40) [] []]] }
theorem functions_run : runFn Try.prog 100 3 30 [] [] = some (.amap 0 0, [fnBlk]) := by kernel_rfl
theorem functions_ok : FnC Try.prog 30 (runFn Try.prog 100 3 30) := runFn_ok tm tN 3 30 Try.func30 rfl
/-! ### What an instruction does -/
abbrev Res := Cpu × List Int
def Cpu.goto (c : Cpu) (n : Int) : Cpu := ⟨n, c.r, c.h⟩
def exec (c : Cpu) (x : Ins) : Res :=
  if x.op = 1 then ((stored c).set x.a.toNat x.b, [0, 0, 0, 0, 0, 0, 0, 0])
  else if x.op = 2 then ((stored c).set x.a.toNat (c.get x.b.toNat), [0, 0, 0, 0, 0, 0, 0, 0])
  else if x.op = 3 then ((stored c).set x.a.toNat (fAdd (c.get x.b.toNat) (c.get x.c.toNat)), [0, 0, 0, 0, 0, 0, 0, 0])
  else if x.op = 4 then ((stored c).set x.a.toNat (fSub (c.get x.b.toNat) (c.get x.c.toNat)), [0, 0, 0, 0, 0, 0, 0, 0])
  else if x.op = 5 then ((stored c).set x.a.toNat (fMul (c.get x.b.toNat) (c.get x.c.toNat)), [0, 0, 0, 0, 0, 0, 0, 0])
  else if x.op = 6 then ((stored c).set x.a.toNat (fLess (c.get x.b.toNat) (c.get x.c.toNat)), [0, 0, 0, 0, 0, 0, 0, 0])
  else if x.op = 7 then ((stored c).set x.a.toNat (fEq (c.get x.b.toNat) (c.get x.c.toNat)), [0, 0, 0, 0, 0, 0, 0, 0])
  else if x.op = 8 then (c.goto x.a, [0, 0, 0, 0, 0, 0, 0, 0])
  else if x.op = 9 then (if c.get x.a.toNat = 0 then stored c else c.goto x.b, [0, 0, 0, 0, 0, 0, 0, 0])
  else if x.op = 10 then (c, [1, fAdd (c.get x.b.toNat) x.c, x.a, 0, 0, 0, 0, 0])
  else if x.op = 11 then (c, [2, fAdd (c.get x.b.toNat) x.c, 0, c.get x.a.toNat, 0, 0, 0, 0])
  else if x.op = 12 then (c, [3, 0, 0, 0, x.a, c.get 1, c.get 2, c.get 3])
  else (stored c, [0, 0, 0, 0, 0, 0, 0, 0])
def fault (c : Cpu) : Res := (c, [4, 0, 0, 0, 0, 0, 0, 0])
def next (c : Cpu) (code : List Ins) : Res :=
  if c.pc < 0 then fault c else match code[c.pc.toNat]? with
    | none => fault c
    | some x => if able x then exec c x else fault c
structure Prg where
  code : List Ins
  s : AV
  hs : s.isInl = true
  hc : s.cellish = true
  p : Int
def Prg.cells (p : Prg) : List AV := [.list 4 (p.code.map Ins.cells), p.s, .int .i64 p.p]
theorem Prg.inj (a b : Prg) (h : a.cells = b.cells) : a = b := by
  cases a; cases b
  simp only [Prg.cells, List.cons.injEq, AV.int.injEq, AV.list.injEq, true_and, and_true] at h
  obtain ⟨h1, rfl, rfl⟩ := h
  have := map_inj Ins.inj h1
  subst this
  rfl
def encN (x : Cpu × Prg) : List AV := [.agg x.1.cells, .agg x.2.cells]
theorem encN_inj {β : Type} {f : Cpu × Prg → β} : ∀ x y, encN x = encN y → f x = f y := fun x y h => by
  simp only [encN, List.cons.injEq, AV.agg.injEq, and_true] at h
  rw [Prod.ext (Cpu.inj _ _ h.1) (Prg.inj _ _ h.2)]
def Res.av (r : Res) : AV := .tup [.agg r.1.cells, .agg (r.2.map (.int .i64))]
noncomputable def nextS : SpecFn := mkS encN fun x => (Res.av (next x.1 x.2.code), [])
theorem nextS_eq (c : Cpu) (p : Prg) : nextS [.agg c.cells, .agg p.cells] [] = some (Res.av (next c p.code), []) := mkS_eq encN_inj (c, p)
end Go.Abs.Cp
