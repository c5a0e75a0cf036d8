/- 'Next' as a whole, and the statement on adding, multiplying and comparing. Conditions: none. -/
import Derived.Test.YtldfmgiglcajcaaCpG
import Derived.Test.YtldfmgiglcajcaaCpH
import Derived.Test.YtldfmgiglcajcaaCpC
namespace Go.Abs.Cp
open Go Go.Proofs Go.Abs
set_option maxRecDepth 100000
set_option maxHeartbeats 4000000
set_option linter.unusedSimpArgs false
set_option linter.unusedVariables false
theorem next_ok : FnC Try.prog 13 nextS := by
  refine FnC.walk 13 (fn := Try.f13) Try.func13 rfl (by kernel_rfl) fun x => ?_
  obtain ⟨c, p⟩ := x
  change W Try.prog (Ret Try.prog Try.f13 (Res.av (next c p.code)) []) (codeOf Try.f13) [] ⟨148, [(0, .agg c.cells), (1, .agg p.cells)], []⟩
  by_cases h0 : c.pc < 0
  · exact next_fault c p (by simp [next, h0]) (.inl h0)
  by_cases h1 : (p.code.length : Int) ≤ c.pc
  · refine next_fault c p ?_ (.inr (.inl ⟨h0, h1⟩))
    have : p.code[c.pc.toNat]? = none := List.getElem?_eq_none (by omega)
    simp [next, h0, this]
  obtain ⟨k, hk⟩ : ∃ k : Nat, c.pc = k := ⟨c.pc.toNat, by omega⟩
  have hl : k < p.code.length := by omega
  obtain ⟨x, hx⟩ := get_lt hl
  by_cases h3 : able x = true
  · have hn : next c p.code = exec c x := by simp [next, hk, hx, h3, nat_not_neg k]
    rw [hn]
    by_cases e0 : x.op = 0 ∨ x.op = 8 ∨ x.op = 12
    · exact next_exec0 c p hk hx h3 e0
    by_cases e1 : x.op = 1 ∨ x.op = 9
    · exact next_exec1 c p hk hx h3 e0 e1
    by_cases e2 : x.op = 2 ∨ x.op = 10 ∨ x.op = 11
    · exact next_exec2 c p hk hx h3 e0 e1 e2
    by_cases e3 : x.op = 3 ∨ x.op = 4 ∨ x.op = 5 ∨ x.op = 6 ∨ x.op = 7
    · exact next_exec3 c p hk hx h3 e0 e1 e2 e3
    simp [able, e0, e1, e2, e3] at h3
  · have h3' : able x = false := by simpa using h3
    refine next_fault c p ?_ (.inr (.inr ⟨k, x, hk, hx, h3'⟩))
    simp [next, hk, hx, h3', nat_not_neg k]
/-! ### One instruction -/
def aft (c : Cpu) (x : Ins) : Cpu := (next (c.goto 0) [x]).1
def encA (x : Cpu × Ins) : List AV := [.agg x.1.cells, .agg x.2.cells]
noncomputable def aftS : SpecFn := mkS encA fun x => (.agg (aft x.1 x.2).cells, [])
theorem aftS_eq (c : Cpu) (x : Ins) : aftS [.agg c.cells, .agg x.cells] [] = some (.agg (aft c x).cells, []) :=
  mkS_eq (enc := encA) (fun x y h => by
    simp only [encA, List.cons.injEq, AV.agg.injEq, and_true] at h
    rw [Prod.ext (Cpu.inj _ _ h.1) (Ins.inj _ _ h.2)]) (c, x)
noncomputable def af_specs : NL Spec := [(13, ⟨0, nextS⟩)]
theorem af_specs_ok : ∀ p ∈ af_specs, FnC Try.prog p.1 p.2.fn := by
  simp only [af_specs, List.mem_cons, List.not_mem_nil, or_false]
  rintro p rfl
  exact next_ok
theorem tz28 : zeroA Try.prog 28 = some (.agg [.nils, .nils, .int .i64 0]) := by kernel_rfl
theorem tu25 : Try.prog.underlying 25 = some (.slice 31) := by kernel_rfl
theorem ts26 : szOf Try.prog 26 = some 1 := by kernel_rfl
theorem nextS_one (c : Cpu) (x : Ins) : nextS [.agg (.int .i64 0 :: c.r.map (.int .i64)), .agg [.list 4 [[.int .i64 x.op, .int .i64 x.a, .int .i64 x.b, .int .i64 x.c]], .nils, .int .i64 0]] [] =
    some (.tup [.agg (.int .i64 (aft c x).pc :: (aft c x).r.map (.int .i64)), .agg ((next (c.goto 0) [x]).2.map (.int .i64))], []) := nextS_eq (c.goto 0) ⟨[x], .nils, rfl, rfl, 0⟩
theorem next_len (c : Cpu) (l : List Ins) : (next c l).2.length = 8 := by
  unfold next
  split
  · rfl
  · split
    · rfl
    · split
      · unfold exec
        simp only [apply_ite Prod.snd, apply_ite List.length, List.length_cons, List.length_nil, ite_self]
      · rfl
theorem take_next (c : Cpu) (l : List Ins) : ((next c l).2.map (AV.int .i64)).take 8 = (next c l).2.map (AV.int .i64) := take_map _ _ _ (next_len c l)
attribute [local simp] runL stepA execA_eq skipA run_ret run_fail run_get run_put run_asm num lk st lk_st putA AS.ev ofValue ofFlat mkv splice fieldAddrA buildA fillA runF gdst pickA unOpA extractA resVs resV pack frzT inlT inlV frzV frzVs frzL frz1 newId AV.cellsOf AV.flat AV.flat2 specOf loadA_runR renL fF handB renB AV.ren backF backL idsOf freshIds refsL refsB AV.refs List.range List.range.loop placesA sliceRows rowsOf convertA sliceArrA sliceA bndA nilCheckA arrayAtA mmA lookupA keyOf keyOK findA keyEqA foundA makeMapA mapUpdateA appendA rowsA indexA partA fieldA retE2 frqT frqV frqVs frqL frq1 reachE blkRefs outE nodupE firstE seqO expB2 expF tz24 ts24 ta24 ts22 ta22 ts3 ta3 ts2 ta2 mkv2 get_1_add take_1_add Cpu.cells Cpu.len Cpu.take frzL_ints brwL_ints inlT inlV tz31 ts31 ta31 tz42 ts42 ta42 ts28 ta28 ts25 ta25 ts26 tz28 tu25 Ins.cells af_specs nextS_one placesA buildSliceA sliceRows rowsOf frzP next_len take_next
theorem after_ok : FnC Try.prog 15 aftS := by
  refine FnC.walk 15 (fn := Try.f15) Try.func15 rfl (by kernel_rfl) fun x => ?_
  obtain ⟨c, x⟩ := x
  change W _ _ _ _ ⟨17, [(0, .agg c.cells), (1, .agg x.cells)], []⟩
  repeat (first | refine N.seq ?_ | refine N.blk ?_ | refine W.seq rfl ?_ | refine W.block rfl ?_ | refine W.skip rfl ?_ | refine W.ret rfl ?_ | refine N.nil ?_ | refine N.loop ?_ | refine W.exit rfl ?_ | refine X.seq ?_ | refine X.loop ?_ | refine X.hit ?_ | refine X.pass (by decide) ?_ | refine W.condT rfl (by rfl) ?_ | refine W.condF rfl (by rfl) ?_ | refine W.region tm af_specs_ok rfl (by conv => lhs; simp [maxLen]) fun _ => ?_ | refine W.regionD tm af_specs_ok rfl (by conv => lhs; simp [maxLen]) (by conv => lhs; simp) (by kernel_rfl) fun _ => ?_)
  simp only [Cpu.cells]
  first | exact Ret.dataR rfl (by conv => lhs; simp) (by conv => lhs; simp) (by first | rfl | simp [inlT, inlV]) | fail "no return here"
/-! ### The statement -/
theorem aftS_eq' (c : Cpu) (o a b d : Int) : aftS [.agg (.int .i64 c.pc :: c.r.map (.int .i64)), .agg [.int .i64 o, .int .i64 a, .int .i64 b, .int .i64 d]] [] =
    some (.agg (.int .i64 (aft c ⟨o, a, b, d⟩).pc :: (aft c ⟨o, a, b, d⟩).r.map (.int .i64)), []) := aftS_eq c ⟨o, a, b, d⟩
def c0 (a b : Int) : Cpu := ⟨0, [0, a, b, 0, 0, 0, 0, 0], rfl⟩
theorem aftS_c0 (a b o x y z : Int) : aftS [.agg [.int .i64 0, .int .i64 0, .int .i64 a, .int .i64 b, .int .i64 0, .int .i64 0, .int .i64 0, .int .i64 0, .int .i64 0], .agg [.int .i64 o, .int .i64 x, .int .i64 y, .int .i64 z]] [] =
    some (.agg (.int .i64 (aft (c0 a b) ⟨o, x, y, z⟩).pc :: (aft (c0 a b) ⟨o, x, y, z⟩).r.map (.int .i64)), []) := aftS_eq (c0 a b) ⟨o, x, y, z⟩
def one (a b : Int) : Cpu := aft (aft (aft (c0 a b) ⟨3, 3, 1, 2⟩) ⟨4, 4, 3, 2⟩) ⟨3, 5, 2, 1⟩
def two (a b : Int) : Cpu := aft (aft (c0 a b) ⟨5, 3, 1, 2⟩) ⟨5, 4, 2, 1⟩
def three (a b : Int) : Cpu := aft (aft (aft (c0 a b) ⟨6, 3, 1, 2⟩) ⟨6, 4, 2, 1⟩) ⟨7, 5, 1, 2⟩
theorem one_r (a b : Int) : (one a b).r = [0, a, b, fAdd a b, fSub (fAdd a b) b, fAdd b a, 0, 0] := rfl
theorem two_r (a b : Int) : (two a b).r = [0, a, b, fMul a b, fMul b a, 0, 0, 0] := rfl
theorem three_r (a b : Int) : (three a b).r = [0, a, b, fLess a b, fLess b a, fEq a b, 0, 0] := rfl
theorem i64_lo : IntKind.i64.wrap (-9223372036854775808) = -9223372036854775808 := by decide
def in64 (x : Int) : Prop := -9223372036854775808 ≤ x ∧ x ≤ 9223372036854775807
theorem sub_add (a b : Int) (h : in64 a) : fSub (fAdd a b) b = a := by
  unfold fSub fAdd
  unfold in64 at h
  simp only [IntKind.wrap_i64]
  omega
theorem less_sum (a b : Int) : IntKind.i64.wrap (IntKind.i64.wrap (fLess a b + fLess b a) + fEq a b) = 1 := by
  unfold fLess fEq b2i
  by_cases h1 : a < b
  · have h2 : ¬ b < a := by omega
    have h3 : ¬ a = b := by omega
    simp [h1, h2, h3]
    decide
  · by_cases h2 : b < a
    · have h3 : ¬ a = b := by omega
      simp [h1, h2, h3]
      decide
    · have h3 : a = b := by omega
      subst h3
      simp
      decide
theorem less_one (a b : Int) : (fLess a b == 1) = decide (a < b) := by
  unfold fLess b2i
  by_cases h1 : a < b <;> simp [h1]
noncomputable def al_specs : NL Spec := [(8, ⟨0, runFn Try.prog 1000 10 8⟩), (15, ⟨0, aftS⟩)]
theorem al_specs_ok : ∀ p ∈ al_specs, FnC Try.prog p.1 p.2.fn := by
  simp only [al_specs, List.mem_cons, List.not_mem_nil, or_false]
  rintro p (rfl | rfl)
  · exact sane_ok
  · exact after_ok
theorem tz22 : zeroA Try.prog 22 = some (.agg ([0, 0, 0, 0, 0, 0, 0, 0].map (.int .i64))) := by kernel_rfl
attribute [local simp] al_specs aftS_eq' aftS_c0 sane_run tz22 tu4 eqlA
def encL (x : { p : Int × Int // in64 p.1 ∧ in64 p.2 }) : List AV := [.int .i64 x.1.1, .int .i64 x.1.2]
noncomputable def lawAS : SpecFn := mkS encL fun _ => (.bool true, [])
theorem lawA_ok : FnC Try.prog 6 lawAS := by
  refine FnC.walk 6 (fn := Try.f6) Try.func6 rfl (by kernel_rfl) fun x => ?_
  obtain ⟨⟨a, b⟩, ha, hb⟩ := x
  dsimp only at ha hb
  change W _ _ _ _ ⟨104, [(0, .int .i64 a), (1, .int .i64 b)], []⟩
  have g1 : (aft (aft (aft (c0 a b) ⟨3, 3, 1, 2⟩) ⟨4, 4, 3, 2⟩) ⟨3, 5, 2, 1⟩).r = [0, a, b, fAdd a b, fSub (fAdd a b) b, fAdd b a, 0, 0] := rfl
  have g2 : (aft (aft (c0 a b) ⟨5, 3, 1, 2⟩) ⟨5, 4, 2, 1⟩).r = [0, a, b, fMul a b, fMul b a, 0, 0, 0] := rfl
  have g3 : (aft (aft (aft (c0 a b) ⟨6, 3, 1, 2⟩) ⟨6, 4, 2, 1⟩) ⟨7, 5, 1, 2⟩).r = [0, a, b, fLess a b, fLess b a, fEq a b, 0, 0] := rfl
  have e1 := sub_add a b ha
  have e2 : fAdd b a = fAdd a b := by unfold fAdd; rw [Int.add_comm]
  have e3 : fMul b a = fMul a b := by unfold fMul; rw [Int.mul_comm]
  have e4 : IntKind.i64.wrap (a + b) = fAdd a b := rfl
  have e5 : IntKind.i64.wrap (a * b) = fMul a b := rfl
  repeat (first | refine N.seq ?_ | refine N.blk ?_ | refine W.seq rfl ?_ | refine W.block rfl ?_ | refine W.skip rfl ?_ | refine W.ret rfl ?_ | refine N.nil ?_ | refine N.loop ?_ | refine W.exit rfl ?_ | refine X.seq ?_ | refine X.loop ?_ | refine X.hit ?_ | refine X.pass (by decide) ?_ | refine W.condT rfl (by rfl) ?_ | refine W.condF rfl (by rfl) ?_ | refine W.region tm al_specs_ok rfl (by conv => lhs; simp) fun _ => ?_ | refine W.regionD tm al_specs_ok rfl (by conv => lhs; simp) (by conv => lhs; simp) (by kernel_rfl) fun _ => ?_)
  refine W.region tm al_specs_ok rfl (by conv => lhs; simp [g1, g2, g3, e1, e2, e3, e4, e5, less_sum, less_one]) fun _ => ?_
  repeat (first | refine N.seq ?_ | refine N.blk ?_ | refine W.seq rfl ?_ | refine W.block rfl ?_ | refine W.skip rfl ?_ | refine W.ret rfl ?_ | refine N.nil ?_ | refine N.loop ?_ | refine W.exit rfl ?_ | refine X.seq ?_ | refine X.loop ?_ | refine X.hit ?_ | refine X.pass (by decide) ?_ | refine W.condT rfl (by rfl) ?_ | refine W.condF rfl (by rfl) ?_ | refine W.region tm al_specs_ok rfl (by conv => lhs; simp) fun _ => ?_ | refine W.regionD tm al_specs_ok rfl (by conv => lhs; simp) (by conv => lhs; simp) (by kernel_rfl) fun _ => ?_)
  first | exact Ret.dataR rfl (by conv => lhs; simp) (by conv => lhs; simp) (by first | rfl | simp [inlT, inlV]) | fail "no return here"
end Go.Abs.Cp
