/- Whether an object is zero. Conditions: none. -/
import Derived.Test.YtlakgienobmpbaaGreatNz2
namespace Go.Abs.Nz
open Go Go.Proofs Go.Abs
set_option maxRecDepth 100000
set_option maxHeartbeats 4000000
set_option linter.unusedSimpArgs false
set_option linter.unusedVariables false
def zc : AV → Bool
  | .int _ n => n == 0
  | .list _ r => r.length == 0
  | _ => false
def cpuZ (a b c d e f g h i : Int) : Bool := a == 0 && (b == 0 && (c == 0 && (d == 0 && (e == 0 && (f == 0 && (g == 0 && (h == 0 && i == 0)))))))
theorem tcI : Tryz.prog.cellsOf 2 = 1 := by kernel_rfl
theorem tiI : (Tryz.prog.info? 2).isSome = true := by kernel_rfl
theorem tcJ : Tryz.prog.cellsOf 3 = 1 := by kernel_rfl
theorem tiJ : (Tryz.prog.info? 3).isSome = true := by kernel_rfl
theorem tgC : Tryz.prog.eqGuardType Tryz.prog.depth 34 = false := by kernel_rfl
theorem thC : Tryz.prog.stoodInHeld 34 = false := by kernel_rfl
theorem tgE : Tryz.prog.eqGuardType Tryz.prog.depth 41 = false := by kernel_rfl
theorem eqCpu (a b c d e f g h i a' b' c' d' e' f' g' h' i' : Int) : eqV Tryz.prog 9 34 (.agg [.int .i64 a, .int .i64 b, .int .i64 c, .int .i64 d, .int .i64 e, .int .i64 f, .int .i64 g, .int .i64 h, .int .i64 i]) (.agg [.int .i64 a', .int .i64 b', .int .i64 c', .int .i64 d', .int .i64 e', .int .i64 f', .int .i64 g', .int .i64 h', .int .i64 i']) =
    some (a == a' && (b == b' && (c == c' && (d == d' && (e == e' && (f == f' && (g == g' && (h == h' && i == i')))))))) := by
  simp [eqV, Tryz.underlying34, Tryz.underlying32, Tryz.underlying2, Tryz.underlying3, thC, eqFs, eqIs, partV, List.range, List.range.loop, tcI, tiI]
theorem eqEnds (a b a' b' : Int) : eqV Tryz.prog 9 41 (.agg [.int .i64 a, .int .i64 b]) (.agg [.int .i64 a', .int .i64 b']) = some (a == a' && b == b') := by
  simp [eqV, Tryz.underlying41, Tryz.underlying3, eqFs, eqIs, partV, List.range, List.range.loop, tcJ, tiJ]
attribute [local simp] instA eqlA tgC tgE eqCpu eqEnds
def restZ : List AV → Bool
  | [.int .i64 p0, .int .u64 p1, .list 1 p2, .list 4 q0, .list 1 q1, .int .i64 q2, .int .i64 z0, .int .i64 z1, .int .i64 z2, .int .i64 z3, .int .i64 z4, .int .i64 z5, .int .i64 z6, .int .i64 z7, .int .i64 z8, .list 2 p5, .list 4 p6, .int .i64 p7, .int .i64 p8, .int .i64 p9] => ((p2.length : Int) + q0.length + q1.length + p5.length + p6.length == 0) && ((q2 == 0) && (cpuZ z0 z1 z2 z3 z4 z5 z6 z7 z8 && ((p7 == 0) && (p8 == 0))))
  | _ => false
noncomputable def rsS : SpecFn := mkS (fun d : Prc => [.agg d.cells]) fun d => (.bool (restZ d.cells), [])
theorem rsS_eq (d : Prc) : rsS [.agg d.cells] [] = some (.bool (restZ d.cells), []) := mkS_eq (enc := fun d : Prc => [AV.agg d.cells]) tdInj d
theorem rs_ok : FnC Tryz.prog 196 rsS := by
  refine FnC.walk 196 (fn := Tryz.f196) Tryz.func196 rfl (by kernel_rfl) fun d => ?_
  obtain ⟨cs, ty, bd⟩ := d
  obtain ⟨p0, p1, p2, p3, p4, p5, p6, p7, p8, p9, rfl, -, -, -, h3, h4, -, -, -, -, -⟩ := viewProcess ty
  obtain ⟨q0, q1, q2, rfl, -, -, -⟩ := viewProgram h3
  obtain ⟨z0, z1, z2, z3, z4, z5, z6, z7, z8, rfl, -⟩ := viewCPU h4
  simp only [List.cons_append, List.nil_append, bdL, bdV, Bool.and_eq_true, decide_eq_true_eq, Bool.and_true, Bool.true_and, true_and] at bd
  change W _ (Ret _ _ (.bool (((p2.length : Int) + q0.length + q1.length + p5.length + p6.length == 0) && ((q2 == 0) && (cpuZ z0 z1 z2 z3 z4 z5 z6 z7 z8 && ((p7 == 0) && (p8 == 0)))))) []) _ _ ⟨47, [(0, .agg [.int .i64 p0, .int .u64 p1, .list 1 p2, .list 4 q0, .list 1 q1, .int .i64 q2, .int .i64 z0, .int .i64 z1, .int .i64 z2, .int .i64 z3, .int .i64 z4, .int .i64 z5, .int .i64 z6, .int .i64 z7, .int .i64 z8, .list 2 p5, .list 4 p6, .int .i64 p7, .int .i64 p8, .int .i64 p9])], []⟩
  clear h3 h4
  have w1 : IntKind.i64.wrap ((p2.length : Int) + q0.length) = (p2.length : Int) + q0.length := w64 (by omega) (by omega)
  have w2 : IntKind.i64.wrap ((p2.length : Int) + q0.length + q1.length) = (p2.length : Int) + q0.length + q1.length := w64 (by omega) (by omega)
  have w3 : IntKind.i64.wrap ((p2.length : Int) + q0.length + q1.length + p5.length) = (p2.length : Int) + q0.length + q1.length + p5.length := w64 (by omega) (by omega)
  obtain ⟨n, hn⟩ : ∃ n : Int, (p2.length : Int) + q0.length + q1.length + p5.length + p6.length = n := ⟨_, rfl⟩
  have w4 : IntKind.i64.wrap ((p2.length : Int) + q0.length + q1.length + p5.length + p6.length) = n := by rw [← hn]; exact w64 (by omega) (by omega)
  rw [hn]
  unfold cpuZ
  cases h1 : (n == 0) with
  | false =>
    repeat (first | refine ZS ?_ | refine ZK tm no_specs rfl (by conv => lhs; simp [w1, w2, w3, w4, h1]) fun _ => ?_ | refine ZL tm no_specs rfl (by conv => lhs; simp [w1, w2, w3, w4, h1]) fun _ => ?_)
    simp only [h1, Bool.true_and, Bool.false_and, Bool.and_false]
    first | exact Ret.dataR rfl (by conv => lhs; simp) (by conv => lhs; simp) (by first | rfl | simp [inlT, inlV]) | fail "no return here"
  | true =>
    cases h2 : (q2 == 0) with
    | false =>
      repeat (first | refine ZS ?_ | refine ZK tm no_specs rfl (by conv => lhs; simp [w1, w2, w3, w4, h1, h2]) fun _ => ?_ | refine ZL tm no_specs rfl (by conv => lhs; simp [w1, w2, w3, w4, h1, h2]) fun _ => ?_)
      simp only [h1, h2, Bool.true_and, Bool.false_and, Bool.and_false]
      first | exact Ret.dataR rfl (by conv => lhs; simp) (by conv => lhs; simp) (by first | rfl | simp [inlT, inlV]) | fail "no return here"
    | true =>
      cases h3 : (z0 == 0 && (z1 == 0 && (z2 == 0 && (z3 == 0 && (z4 == 0 && (z5 == 0 && (z6 == 0 && (z7 == 0 && z8 == 0)))))))) with
      | false =>
        repeat (first | refine ZS ?_ | refine ZK tm no_specs rfl (by conv => lhs; simp [w1, w2, w3, w4, h1, h2, h3]) fun _ => ?_ | refine ZL tm no_specs rfl (by conv => lhs; simp [w1, w2, w3, w4, h1, h2, h3]) fun _ => ?_)
        simp only [h1, h2, h3, Bool.true_and, Bool.false_and, Bool.and_false]
        first | exact Ret.dataR rfl (by conv => lhs; simp) (by conv => lhs; simp) (by first | rfl | simp [inlT, inlV]) | fail "no return here"
      | true =>
        cases h4 : (p7 == 0) with
        | false =>
          repeat (first | refine ZS ?_ | refine ZK tm no_specs rfl (by conv => lhs; simp [w1, w2, w3, w4, h1, h2, h3, h4]) fun _ => ?_ | refine ZL tm no_specs rfl (by conv => lhs; simp [w1, w2, w3, w4, h1, h2, h3, h4]) fun _ => ?_)
          simp only [h1, h2, h3, h4, Bool.true_and, Bool.false_and, Bool.and_false]
          first | exact Ret.dataR rfl (by conv => lhs; simp) (by conv => lhs; simp) (by first | rfl | simp [inlT, inlV]) | fail "no return here"
        | true =>
          repeat (first | refine ZS ?_ | refine ZK tm no_specs rfl (by conv => lhs; simp [w1, w2, w3, w4, h1, h2, h3, h4]) fun _ => ?_ | refine ZL tm no_specs rfl (by conv => lhs; simp [w1, w2, w3, w4, h1, h2, h3, h4]) fun _ => ?_)
          simp only [h1, h2, h3, h4, Bool.true_and, Bool.and_true]
          first | exact Ret.dataR rfl (by conv => lhs; simp) (by conv => lhs; simp) (by first | rfl | simp [inlT, inlV]) | fail "no return here"
def noneZ : List AV → Bool
  | [.int .i64 p0, .int .u64 p1, .list 1 p2, .list 4 q0, .list 1 q1, .int .i64 q2, .int .i64 z0, .int .i64 z1, .int .i64 z2, .int .i64 z3, .int .i64 z4, .int .i64 z5, .int .i64 z6, .int .i64 z7, .int .i64 z8, .list 2 p5, .list 4 p6, .int .i64 p7, .int .i64 p8, .int .i64 p9] => (p0 == 0) && ((p1 == 0) && ((p9 == 0) && restZ [.int .i64 p0, .int .u64 p1, .list 1 p2, .list 4 q0, .list 1 q1, .int .i64 q2, .int .i64 z0, .int .i64 z1, .int .i64 z2, .int .i64 z3, .int .i64 z4, .int .i64 z5, .int .i64 z6, .int .i64 z7, .int .i64 z8, .list 2 p5, .list 4 p6, .int .i64 p7, .int .i64 p8, .int .i64 p9]))
  | _ => false
noncomputable def nnS : SpecFn := mkS (fun d : Prc => [.agg d.cells]) fun d => (.bool (noneZ d.cells), [])
theorem nnS_eq (d : Prc) : nnS [.agg d.cells] [] = some (.bool (noneZ d.cells), []) := mkS_eq (enc := fun d : Prc => [AV.agg d.cells]) tdInj d
noncomputable def nn_specs : NL Spec := [(196, ⟨1, rsS⟩)]
theorem nn_specs_ok : ∀ p ∈ nn_specs, FnC Tryz.prog p.1 p.2.fn := by
  simp only [nn_specs, List.mem_cons, List.not_mem_nil, or_false]
  rintro p rfl
  exact rs_ok
attribute [local simp] nn_specs
theorem nn_ok : FnC Tryz.prog 190 nnS := by
  refine FnC.walk 190 (fn := Tryz.f190) Tryz.func190 rfl (by kernel_rfl) fun d => ?_
  obtain ⟨cs, ty, bd⟩ := d
  have hR := rsS_eq ⟨cs, ty, bd⟩
  obtain ⟨p0, p1, p2, p3, p4, p5, p6, p7, p8, p9, rfl, -, -, -, h3, h4, -, -, -, -, -⟩ := viewProcess ty
  obtain ⟨q0, q1, q2, rfl, -, -, -⟩ := viewProgram h3
  obtain ⟨z0, z1, z2, z3, z4, z5, z6, z7, z8, rfl, -⟩ := viewCPU h4
  simp only [List.cons_append, List.nil_append] at hR
  change W _ (Ret _ _ (.bool ((p0 == 0) && ((p1 == 0) && ((p9 == 0) && restZ [.int .i64 p0, .int .u64 p1, .list 1 p2, .list 4 q0, .list 1 q1, .int .i64 q2, .int .i64 z0, .int .i64 z1, .int .i64 z2, .int .i64 z3, .int .i64 z4, .int .i64 z5, .int .i64 z6, .int .i64 z7, .int .i64 z8, .list 2 p5, .list 4 p6, .int .i64 p7, .int .i64 p8, .int .i64 p9])))) []) _ _ ⟨20, [(0, .agg [.int .i64 p0, .int .u64 p1, .list 1 p2, .list 4 q0, .list 1 q1, .int .i64 q2, .int .i64 z0, .int .i64 z1, .int .i64 z2, .int .i64 z3, .int .i64 z4, .int .i64 z5, .int .i64 z6, .int .i64 z7, .int .i64 z8, .list 2 p5, .list 4 p6, .int .i64 p7, .int .i64 p8, .int .i64 p9])], []⟩
  clear h3 h4
  generalize restZ [.int .i64 p0, .int .u64 p1, .list 1 p2, .list 4 q0, .list 1 q1, .int .i64 q2, .int .i64 z0, .int .i64 z1, .int .i64 z2, .int .i64 z3, .int .i64 z4, .int .i64 z5, .int .i64 z6, .int .i64 z7, .int .i64 z8, .list 2 p5, .list 4 p6, .int .i64 p7, .int .i64 p8, .int .i64 p9] = rz at *
  cases h1 : (p0 == 0) with
  | false =>
    repeat (first | refine ZS ?_ | refine ZK tm nn_specs_ok rfl (by conv => lhs; simp [hR, h1]) fun _ => ?_ | refine ZL tm nn_specs_ok rfl (by conv => lhs; simp [hR, h1]) fun _ => ?_)
    simp only [h1, Bool.true_and, Bool.false_and, Bool.and_false]
    first | exact Ret.dataR rfl (by conv => lhs; simp) (by conv => lhs; simp) (by first | rfl | simp [inlT, inlV]) | fail "no return here"
  | true =>
    cases h2 : (p1 == 0) with
    | false =>
      repeat (first | refine ZS ?_ | refine ZK tm nn_specs_ok rfl (by conv => lhs; simp [hR, h1, h2]) fun _ => ?_ | refine ZL tm nn_specs_ok rfl (by conv => lhs; simp [hR, h1, h2]) fun _ => ?_)
      simp only [h1, h2, Bool.true_and, Bool.false_and, Bool.and_false]
      first | exact Ret.dataR rfl (by conv => lhs; simp) (by conv => lhs; simp) (by first | rfl | simp [inlT, inlV]) | fail "no return here"
    | true =>
      cases h3 : (p9 == 0) with
      | false =>
        repeat (first | refine ZS ?_ | refine ZK tm nn_specs_ok rfl (by conv => lhs; simp [hR, h1, h2, h3]) fun _ => ?_ | refine ZL tm nn_specs_ok rfl (by conv => lhs; simp [hR, h1, h2, h3]) fun _ => ?_)
        simp only [h1, h2, h3, Bool.true_and, Bool.false_and, Bool.and_false]
        first | exact Ret.dataR rfl (by conv => lhs; simp) (by conv => lhs; simp) (by first | rfl | simp [inlT, inlV]) | fail "no return here"
      | true =>
        repeat (first | refine ZS ?_ | refine ZK tm nn_specs_ok rfl (by conv => lhs; simp [hR, h1, h2, h3]) fun _ => ?_ | refine ZL tm nn_specs_ok rfl (by conv => lhs; simp [hR, h1, h2, h3]) fun _ => ?_)
        simp only [h1, h2, h3, Bool.true_and, Bool.and_true]
        first | exact Ret.dataR rfl (by conv => lhs; simp) (by conv => lhs; simp) (by first | rfl | simp [inlT, inlV]) | fail "no return here"
def blankZ : List AV → Bool
  | [.int .i64 p0, .int .u64 p1, .list 1 p2, .list 4 q0, .list 1 q1, .int .i64 q2, .int .i64 z0, .int .i64 z1, .int .i64 z2, .int .i64 z3, .int .i64 z4, .int .i64 z5, .int .i64 z6, .int .i64 z7, .int .i64 z8, .list 2 p5, .list 4 p6, .int .i64 p7, .int .i64 p8, .int .i64 p9] => (p0 == 0) && ((p1 == 0) && (((p2.length : Int) == 0) && (((q0.length : Int) == 0) && (((q1.length : Int) == 0) && ((q2 == 0) && (cpuZ z0 z1 z2 z3 z4 z5 z6 z7 z8 && (((p5.length : Int) == 0) && (((p6.length : Int) == 0) && ((p7 == 0) && ((p8 == 0) && (p9 == 0)))))))))))
  | _ => false
theorem blankZ_eq {cs : List AV} (ty : TyR Tryz.prog 8 38 cs) : blankZ cs = noneZ cs := by
  obtain ⟨p0, p1, p2, p3, p4, p5, p6, p7, p8, p9, rfl, -, -, -, h3, h4, -, -, -, -, -⟩ := viewProcess ty
  obtain ⟨q0, q1, q2, rfl, -, -, -⟩ := viewProgram h3
  obtain ⟨z0, z1, z2, z3, z4, z5, z6, z7, z8, rfl, -⟩ := viewCPU h4
  simp only [List.cons_append, List.nil_append, blankZ, noneZ, restZ]
  rw [Bool.eq_iff_iff]
  simp only [Bool.and_eq_true, beq_iff_eq]
  constructor
  · rintro ⟨a1, a2, a3, a4, a5, a6, a7, a8, a9, a10, a11, a12⟩
    exact ⟨a1, a2, a12, by omega, a6, a7, a10, a11⟩
  · rintro ⟨a1, a2, a12, a3, a6, a7, a10, a11⟩
    exact ⟨a1, a2, by omega, by omega, by omega, a6, a7, by omega, by omega, a10, a11, a12⟩
theorem bl_ok : FnC Tryz.prog 160 nnS := by
  refine FnC.walk 160 (fn := Tryz.f160) Tryz.func160 rfl (by kernel_rfl) fun d => ?_
  obtain ⟨cs, ty, bd⟩ := d
  dsimp only
  rw [← blankZ_eq ty]
  obtain ⟨p0, p1, p2, p3, p4, p5, p6, p7, p8, p9, rfl, -, -, -, h3, h4, -, -, -, -, -⟩ := viewProcess ty
  obtain ⟨q0, q1, q2, rfl, -, -, -⟩ := viewProgram h3
  obtain ⟨z0, z1, z2, z3, z4, z5, z6, z7, z8, rfl, -⟩ := viewCPU h4
  change W _ (Ret _ _ (.bool ((p0 == 0) && ((p1 == 0) && (((p2.length : Int) == 0) && (((q0.length : Int) == 0) && (((q1.length : Int) == 0) && ((q2 == 0) && (cpuZ z0 z1 z2 z3 z4 z5 z6 z7 z8 && (((p5.length : Int) == 0) && (((p6.length : Int) == 0) && ((p7 == 0) && ((p8 == 0) && (p9 == 0))))))))))))) []) _ _ ⟨70, [(0, .agg [.int .i64 p0, .int .u64 p1, .list 1 p2, .list 4 q0, .list 1 q1, .int .i64 q2, .int .i64 z0, .int .i64 z1, .int .i64 z2, .int .i64 z3, .int .i64 z4, .int .i64 z5, .int .i64 z6, .int .i64 z7, .int .i64 z8, .list 2 p5, .list 4 p6, .int .i64 p7, .int .i64 p8, .int .i64 p9])], []⟩
  unfold cpuZ
  cases h1 : (p0 == 0) with
  | false =>
    repeat (first | refine ZS ?_ | refine ZK tm no_specs rfl (by conv => lhs; simp [h1]) fun _ => ?_ | refine ZL tm no_specs rfl (by conv => lhs; simp [h1]) fun _ => ?_)
    simp only [h1, Bool.true_and, Bool.false_and, Bool.and_false]
    first | exact Ret.dataR rfl (by conv => lhs; simp) (by conv => lhs; simp) (by first | rfl | simp [inlT, inlV]) | fail "no return here"
  | true =>
    cases h2 : (p1 == 0) with
    | false =>
      repeat (first | refine ZS ?_ | refine ZK tm no_specs rfl (by conv => lhs; simp [h1, h2]) fun _ => ?_ | refine ZL tm no_specs rfl (by conv => lhs; simp [h1, h2]) fun _ => ?_)
      simp only [h1, h2, Bool.true_and, Bool.false_and, Bool.and_false]
      first | exact Ret.dataR rfl (by conv => lhs; simp) (by conv => lhs; simp) (by first | rfl | simp [inlT, inlV]) | fail "no return here"
    | true =>
      cases h3 : ((p2.length : Int) == 0) with
      | false =>
        repeat (first | refine ZS ?_ | refine ZK tm no_specs rfl (by conv => lhs; simp [h1, h2, h3]) fun _ => ?_ | refine ZL tm no_specs rfl (by conv => lhs; simp [h1, h2, h3]) fun _ => ?_)
        simp only [h1, h2, h3, Bool.true_and, Bool.false_and, Bool.and_false]
        first | exact Ret.dataR rfl (by conv => lhs; simp) (by conv => lhs; simp) (by first | rfl | simp [inlT, inlV]) | fail "no return here"
      | true =>
        cases h4 : ((q0.length : Int) == 0) with
        | false =>
          repeat (first | refine ZS ?_ | refine ZK tm no_specs rfl (by conv => lhs; simp [h1, h2, h3, h4]) fun _ => ?_ | refine ZL tm no_specs rfl (by conv => lhs; simp [h1, h2, h3, h4]) fun _ => ?_)
          simp only [h1, h2, h3, h4, Bool.true_and, Bool.false_and, Bool.and_false]
          first | exact Ret.dataR rfl (by conv => lhs; simp) (by conv => lhs; simp) (by first | rfl | simp [inlT, inlV]) | fail "no return here"
        | true =>
          cases h5 : ((q1.length : Int) == 0) with
          | false =>
            repeat (first | refine ZS ?_ | refine ZK tm no_specs rfl (by conv => lhs; simp [h1, h2, h3, h4, h5]) fun _ => ?_ | refine ZL tm no_specs rfl (by conv => lhs; simp [h1, h2, h3, h4, h5]) fun _ => ?_)
            simp only [h1, h2, h3, h4, h5, Bool.true_and, Bool.false_and, Bool.and_false]
            first | exact Ret.dataR rfl (by conv => lhs; simp) (by conv => lhs; simp) (by first | rfl | simp [inlT, inlV]) | fail "no return here"
          | true =>
            cases h6 : (q2 == 0) with
            | false =>
              repeat (first | refine ZS ?_ | refine ZK tm no_specs rfl (by conv => lhs; simp [h1, h2, h3, h4, h5, h6]) fun _ => ?_ | refine ZL tm no_specs rfl (by conv => lhs; simp [h1, h2, h3, h4, h5, h6]) fun _ => ?_)
              simp only [h1, h2, h3, h4, h5, h6, Bool.true_and, Bool.false_and, Bool.and_false]
              first | exact Ret.dataR rfl (by conv => lhs; simp) (by conv => lhs; simp) (by first | rfl | simp [inlT, inlV]) | fail "no return here"
            | true =>
              cases h7 : (z0 == 0 && (z1 == 0 && (z2 == 0 && (z3 == 0 && (z4 == 0 && (z5 == 0 && (z6 == 0 && (z7 == 0 && z8 == 0)))))))) with
              | false =>
                repeat (first | refine ZS ?_ | refine ZK tm no_specs rfl (by conv => lhs; simp [h1, h2, h3, h4, h5, h6, h7]) fun _ => ?_ | refine ZL tm no_specs rfl (by conv => lhs; simp [h1, h2, h3, h4, h5, h6, h7]) fun _ => ?_)
                simp only [h1, h2, h3, h4, h5, h6, h7, Bool.true_and, Bool.false_and, Bool.and_false]
                first | exact Ret.dataR rfl (by conv => lhs; simp) (by conv => lhs; simp) (by first | rfl | simp [inlT, inlV]) | fail "no return here"
              | true =>
                cases h8 : ((p5.length : Int) == 0) with
                | false =>
                  repeat (first | refine ZS ?_ | refine ZK tm no_specs rfl (by conv => lhs; simp [h1, h2, h3, h4, h5, h6, h7, h8]) fun _ => ?_ | refine ZL tm no_specs rfl (by conv => lhs; simp [h1, h2, h3, h4, h5, h6, h7, h8]) fun _ => ?_)
                  simp only [h1, h2, h3, h4, h5, h6, h7, h8, Bool.true_and, Bool.false_and, Bool.and_false]
                  first | exact Ret.dataR rfl (by conv => lhs; simp) (by conv => lhs; simp) (by first | rfl | simp [inlT, inlV]) | fail "no return here"
                | true =>
                  cases h9 : ((p6.length : Int) == 0) with
                  | false =>
                    repeat (first | refine ZS ?_ | refine ZK tm no_specs rfl (by conv => lhs; simp [h1, h2, h3, h4, h5, h6, h7, h8, h9]) fun _ => ?_ | refine ZL tm no_specs rfl (by conv => lhs; simp [h1, h2, h3, h4, h5, h6, h7, h8, h9]) fun _ => ?_)
                    simp only [h1, h2, h3, h4, h5, h6, h7, h8, h9, Bool.true_and, Bool.false_and, Bool.and_false]
                    first | exact Ret.dataR rfl (by conv => lhs; simp) (by conv => lhs; simp) (by first | rfl | simp [inlT, inlV]) | fail "no return here"
                  | true =>
                    cases h10 : (p7 == 0) with
                    | false =>
                      repeat (first | refine ZS ?_ | refine ZK tm no_specs rfl (by conv => lhs; simp [h1, h2, h3, h4, h5, h6, h7, h8, h9, h10]) fun _ => ?_ | refine ZL tm no_specs rfl (by conv => lhs; simp [h1, h2, h3, h4, h5, h6, h7, h8, h9, h10]) fun _ => ?_)
                      simp only [h1, h2, h3, h4, h5, h6, h7, h8, h9, h10, Bool.true_and, Bool.false_and, Bool.and_false]
                      first | exact Ret.dataR rfl (by conv => lhs; simp) (by conv => lhs; simp) (by first | rfl | simp [inlT, inlV]) | fail "no return here"
                    | true =>
                      cases h11 : (p8 == 0) with
                      | false =>
                        repeat (first | refine ZS ?_ | refine ZK tm no_specs rfl (by conv => lhs; simp [h1, h2, h3, h4, h5, h6, h7, h8, h9, h10, h11]) fun _ => ?_ | refine ZL tm no_specs rfl (by conv => lhs; simp [h1, h2, h3, h4, h5, h6, h7, h8, h9, h10, h11]) fun _ => ?_)
                        simp only [h1, h2, h3, h4, h5, h6, h7, h8, h9, h10, h11, Bool.true_and, Bool.false_and, Bool.and_false]
                        first | exact Ret.dataR rfl (by conv => lhs; simp) (by conv => lhs; simp) (by first | rfl | simp [inlT, inlV]) | fail "no return here"
                      | true =>
                        repeat (first | refine ZS ?_ | refine ZK tm no_specs rfl (by conv => lhs; simp [h1, h2, h3, h4, h5, h6, h7, h8, h9, h10, h11]) fun _ => ?_ | refine ZL tm no_specs rfl (by conv => lhs; simp [h1, h2, h3, h4, h5, h6, h7, h8, h9, h10, h11]) fun _ => ?_)
                        simp only [h1, h2, h3, h4, h5, h6, h7, h8, h9, h10, h11, Bool.true_and, Bool.and_true]
                        first | exact Ret.dataR rfl (by conv => lhs; simp) (by conv => lhs; simp) (by first | rfl | simp [inlT, inlV]) | fail "no return here"
end Go.Abs.Nz
namespace Go.Abs.Nz
open Go Go.Proofs Go.Abs
set_option maxRecDepth 100000
set_option maxHeartbeats 4000000
set_option linter.unusedSimpArgs false
set_option linter.unusedVariables false
def mk (b : Bool) (f s : Int) : Int := if b = true then IntKind.i64.wrap (((s % 2 ^ IntKind.i64.bits).toNat ||| (f % 2 ^ IntKind.i64.bits).toNat : Nat) : Int) else s
def iB (n : Int) : ABlk := { gen := 0, kind := 2, elem := 3, size := 1, inl := false, rows := [[.int .i64 n]] }
def encMk (x : Int × Bool × Int) : List AV × List ABlk := ([.int .i64 x.1, .bool x.2.1, .ptr 0 0 0 0], [iB x.2.2])
theorem encMk_inj {β : Type} {f : Int × Bool × Int → β} : ∀ x y, encMk x = encMk y → f x = f y := fun x y h => by
  obtain ⟨a, b, c⟩ := x
  obtain ⟨a', b', c'⟩ := y
  simp only [encMk, iB, Prod.mk.injEq, List.cons.injEq, AV.int.injEq, AV.bool.injEq, ABlk.mk.injEq, true_and, and_true] at h
  obtain ⟨⟨rfl, rfl⟩, rfl⟩ := h
  rfl
noncomputable def mkkS : SpecFn := mkS2 encMk fun x => (.tup [], [iB (mk x.2.1 x.1 x.2.2)])
theorem mkkS_eq (f s : Int) (b : Bool) : mkkS [.int .i64 f, .bool b, .ptr 0 0 0 0] [{ gen := 0, kind := 2, elem := 3, size := 1, inl := false, rows := [[.int .i64 s]] }] = some (.tup [], [{ gen := 0, kind := 2, elem := 3, size := 1, inl := false, rows := [[.int .i64 (mk b f s)]] }]) := mkS2_eq (enc := encMk) encMk_inj (f, b, s)
attribute [local simp] instA
theorem mkk_ok : FnC Tryz.prog 189 mkkS := by
  refine FnC.walkB 189 (fn := Tryz.f189) Tryz.func189 rfl (by kernel_rfl) (fun x b hb => by simp [encMk] at hb; rw [hb]; rfl) fun x => ?_
  obtain ⟨f, b, s⟩ := x
  change W _ (RetB _ _ 1 (.tup []) [iB (mk b f s)]) _ _ ⟨9, [(0, .int .i64 f), (1, .bool b), (2, .ptr 0 0 0 0)], [(0, iB s)]⟩
  cases b with
  | false =>
    repeat (first | refine ZS ?_ | refine ZK tm no_specs rfl (by conv => lhs; simp [iB]) fun _ => ?_ | refine ZL tm no_specs rfl (by conv => lhs; simp [iB]) fun _ => ?_)
    simp only [mk, Bool.false_eq_true, if_false, iB]
    first | exact retE2_ok false (by conv => lhs; simp [retE2, frqT, frqV, frqVs, frqL, frq1, reachE, blkRefs, outE, nodupE, firstE, seqO, expB2, expF, refsB, refsL, AV.refs, AV.ren, renL, renB, List.range, List.range.loop, resVs, resV, pack]) | fail "no return here"
  | true =>
    repeat (first | refine ZS ?_ | refine ZK tm no_specs rfl (by conv => lhs; simp [iB]) fun _ => ?_ | refine ZL tm no_specs rfl (by conv => lhs; simp [iB]) fun _ => ?_)
    simp only [mk, if_true, iB]
    first | exact retE2_ok false (by conv => lhs; simp [retE2, frqT, frqV, frqVs, frqL, frq1, reachE, blkRefs, outE, nodupE, firstE, seqO, expB2, expF, refsB, refsL, AV.refs, AV.ren, renL, renB, List.range, List.range.loop, resVs, resV, pack]) | fail "no return here"
theorem mk_pos {b : Bool} {f s : Int} (h0 : 0 ≤ s) (h1 : s < 4611686018427387904) (f0 : 0 < f) (f1 : f < 4611686018427387904) : 0 ≤ mk b f s ∧ mk b f s < 4611686018427387904 ∧ (mk b f s = 0 ↔ b = false ∧ s = 0) := by
  cases b with
  | false => simp [mk]; omega
  | true =>
    obtain ⟨n, rfl⟩ := Int.eq_ofNat_of_zero_le h0
    obtain ⟨m, rfl⟩ := Int.eq_ofNat_of_zero_le (Int.le_of_lt f0)
    have eb : (2 : Int) ^ IntKind.i64.bits = 18446744073709551616 := by decide
    have e1 : ((n : Int) % 2 ^ IntKind.i64.bits).toNat = n := by rw [eb]; omega
    have e2 : ((m : Int) % 2 ^ IntKind.i64.bits).toNat = m := by rw [eb]; omega
    have e4 : n ||| m < 2 ^ 62 := Nat.or_lt_two_pow (by omega) (by omega)
    have e5 : n ||| m ≠ 0 := fun h => by
      have := (Nat.or_eq_zero_iff.1 h).2
      omega
    simp only [mk, if_true, e1, e2]
    rw [w64 (by omega) (by omega)]
    refine ⟨by omega, by omega, ?_⟩
    simp
    omega
theorem fin_zero {s : Int} (h0 : 0 ≤ s) (h1 : s < 4611686018427387904) : IntKind.i64.wrap (max (s % 2 ^ IntKind.i64.bits) 0) = s := by
  have eb : (2 : Int) ^ IntKind.i64.bits = 18446744073709551616 := by decide
  rw [eb, show max (s % 18446744073709551616) 0 = s by omega]
  exact w64 (by omega) (by omega)
theorem marks (b1 b2 b3 b4 b5 b6 b7 b8 b9 b10 b11 b12 b13 : Bool) :
    0 ≤ mk b13 4096 (mk b12 2048 (mk b11 1024 (mk b10 512 (mk b9 256 (mk b8 128 (mk b7 64 (mk b6 32 (mk b5 16 (mk b4 8 (mk b3 4 (mk b2 2 (mk b1 1 0)))))))))))) ∧ mk b13 4096 (mk b12 2048 (mk b11 1024 (mk b10 512 (mk b9 256 (mk b8 128 (mk b7 64 (mk b6 32 (mk b5 16 (mk b4 8 (mk b3 4 (mk b2 2 (mk b1 1 0)))))))))))) < 4611686018427387904 ∧
    (mk b13 4096 (mk b12 2048 (mk b11 1024 (mk b10 512 (mk b9 256 (mk b8 128 (mk b7 64 (mk b6 32 (mk b5 16 (mk b4 8 (mk b3 4 (mk b2 2 (mk b1 1 0)))))))))))) = 0 ↔ b1 = false ∧ b2 = false ∧ b3 = false ∧ b4 = false ∧ b5 = false ∧ b6 = false ∧ b7 = false ∧ b8 = false ∧ b9 = false ∧ b10 = false ∧ b11 = false ∧ b12 = false ∧ b13 = false) := by
  obtain ⟨h1, h2, h3⟩ := mk_pos (b := b1) (f := 1) (s := 0) (by omega) (by omega) (by omega) (by omega)
  obtain ⟨i1, i2, i3⟩ := mk_pos (b := b2) (f := 2) h1 h2 (by omega) (by omega)
  obtain ⟨j1, j2, j3⟩ := mk_pos (b := b3) (f := 4) i1 i2 (by omega) (by omega)
  obtain ⟨k1, k2, k3⟩ := mk_pos (b := b4) (f := 8) j1 j2 (by omega) (by omega)
  obtain ⟨l1, l2, l3⟩ := mk_pos (b := b5) (f := 16) k1 k2 (by omega) (by omega)
  obtain ⟨m1, m2, m3⟩ := mk_pos (b := b6) (f := 32) l1 l2 (by omega) (by omega)
  obtain ⟨n1, n2, n3⟩ := mk_pos (b := b7) (f := 64) m1 m2 (by omega) (by omega)
  obtain ⟨o1, o2, o3⟩ := mk_pos (b := b8) (f := 128) n1 n2 (by omega) (by omega)
  obtain ⟨p1, p2, p3⟩ := mk_pos (b := b9) (f := 256) o1 o2 (by omega) (by omega)
  obtain ⟨q1, q2, q3⟩ := mk_pos (b := b10) (f := 512) p1 p2 (by omega) (by omega)
  obtain ⟨r1, r2, r3⟩ := mk_pos (b := b11) (f := 1024) q1 q2 (by omega) (by omega)
  obtain ⟨s1, s2, s3⟩ := mk_pos (b := b12) (f := 2048) r1 r2 (by omega) (by omega)
  obtain ⟨t1, t2, t3⟩ := mk_pos (b := b13) (f := 4096) s1 s2 (by omega) (by omega)
  refine ⟨t1, t2, ?_⟩
  rw [t3, s3, r3, q3, p3, o3, n3, m3, l3, k3, j3, i3, h3]
  constructor
  · rintro ⟨a, b, c, d, e, f, g, h, i, j, k, l, m, -⟩
    exact ⟨m, l, k, j, i, h, g, f, e, d, c, b, a⟩
  · rintro ⟨m, l, k, j, i, h, g, f, e, d, c, b, a⟩
    exact ⟨a, b, c, d, e, f, g, h, i, j, k, l, m, rfl⟩
noncomputable def on_specs : NL Spec := [(190, ⟨1, nnS⟩), (189, ⟨3, mkkS⟩)]
theorem on_specs_ok : ∀ p ∈ on_specs, FnC Tryz.prog p.1 p.2.fn := by
  simp only [on_specs, List.mem_cons, List.not_mem_nil, or_false]
  rintro p (rfl | rfl)
  · exact nn_ok
  · exact mkk_ok
attribute [local simp] instA eqlA tgC tgE eqCpu eqEnds on_specs
def bareZ : List AV → Bool
  | .int .u64 x0 :: .int .i64 x1 :: .int .i64 x2 :: .int .i64 p0 :: .int .u64 p1 :: .list 1 p2 :: .list 4 q0 :: .list 1 q1 :: .int .i64 q2 :: .int .i64 z0 :: .int .i64 z1 :: .int .i64 z2 :: .int .i64 z3 :: .int .i64 z4 :: .int .i64 z5 :: .int .i64 z6 :: .int .i64 z7 :: .int .i64 z8 :: .list 2 p5 :: .list 4 p6 :: .int .i64 p7 :: .int .i64 p8 :: .int .i64 p9 :: .list 1 x4 :: .list 1 x5 :: .int .i64 x6 :: .int .u64 x7 :: .int .i64 x8 :: .int .i64 x9 :: .list 1 x10 :: .list 1 x11 :: .list 1 x12 :: .int .i64 x13 :: .int .i64 x14 :: .int .i64 x15 :: .list 3 x16 :: [] => (x2 == 0) && (((x4.length : Int) == 0) && (((x5.length : Int) == 0) && ((x6 == 0) && ((x7 == 0) && ((x8 == 0) && ((x9 == 0) && (((x10.length : Int) == 0) && (((x11.length : Int) == 0) && (((x12.length : Int) == 0) && ((x13 == 0 && x14 == 0) && ((x15 == 0) && (((x16.length : Int) == 0) && noneZ [.int .i64 p0, .int .u64 p1, .list 1 p2, .list 4 q0, .list 1 q1, .int .i64 q2, .int .i64 z0, .int .i64 z1, .int .i64 z2, .int .i64 z3, .int .i64 z4, .int .i64 z5, .int .i64 z6, .int .i64 z7, .int .i64 z8, .list 2 p5, .list 4 p6, .int .i64 p7, .int .i64 p8, .int .i64 p9]))))))))))))
  | _ => false
theorem obView (d : Ob) : ∃ p0 p1 p2 q0 q1 q2 z0 z1 z2 z3 z4 z5 z6 z7 z8 p5 p6 p7 p8 p9 x0 x1 x2 x4 x5 x6 x7 x8 x9 x10 x11 x12 x13 x14 x15 x16, d.cells = [.int .u64 x0, .int .i64 x1, .int .i64 x2, .int .i64 p0, .int .u64 p1, .list 1 p2, .list 4 q0, .list 1 q1, .int .i64 q2, .int .i64 z0, .int .i64 z1, .int .i64 z2, .int .i64 z3, .int .i64 z4, .int .i64 z5, .int .i64 z6, .int .i64 z7, .int .i64 z8, .list 2 p5, .list 4 p6, .int .i64 p7, .int .i64 p8, .int .i64 p9, .list 1 x4, .list 1 x5, .int .i64 x6, .int .u64 x7, .int .i64 x8, .int .i64 x9, .list 1 x10, .list 1 x11, .list 1 x12, .int .i64 x13, .int .i64 x14, .int .i64 x15, .list 3 x16] ∧ TyR Tryz.prog 8 38 [.int .i64 p0, .int .u64 p1, .list 1 p2, .list 4 q0, .list 1 q1, .int .i64 q2, .int .i64 z0, .int .i64 z1, .int .i64 z2, .int .i64 z3, .int .i64 z4, .int .i64 z5, .int .i64 z6, .int .i64 z7, .int .i64 z8, .list 2 p5, .list 4 p6, .int .i64 p7, .int .i64 p8, .int .i64 p9] ∧ bdL 10000 [.int .i64 p0, .int .u64 p1, .list 1 p2, .list 4 q0, .list 1 q1, .int .i64 q2, .int .i64 z0, .int .i64 z1, .int .i64 z2, .int .i64 z3, .int .i64 z4, .int .i64 z5, .int .i64 z6, .int .i64 z7, .int .i64 z8, .list 2 p5, .list 4 p6, .int .i64 p7, .int .i64 p8, .int .i64 p9] = true ∧ (x4.length ≤ 10000 ∧ x5.length ≤ 10000 ∧ x10.length ≤ 10000 ∧ x11.length ≤ 10000 ∧ x12.length ≤ 10000 ∧ x16.length ≤ 10000) := by
  obtain ⟨cs, ty, bd⟩ := d
  obtain ⟨x0, x1, x2, xp, x4, x5, x6, x7, x8, x9, x10, x11, x12, x13, x14, x15, x16, rfl, -, -, -, hp, -⟩ := viewObject ty
  simp only [bdL, bdV, bdL_append, Bool.and_eq_true, Bool.true_and, true_and, decide_eq_true_eq] at bd
  have bp := bd.1
  have hp' := hp
  obtain ⟨p0, p1, p2, p3, p4, p5, p6, p7, p8, p9, rfl, -, -, -, h3, h4, -⟩ := viewProcess hp
  obtain ⟨q0, q1, q2, rfl, -, -, -⟩ := viewProgram h3
  obtain ⟨z0, z1, z2, z3, z4, z5, z6, z7, z8, rfl, -⟩ := viewCPU h4
  exact ⟨p0, p1, p2, q0, q1, q2, z0, z1, z2, z3, z4, z5, z6, z7, z8, p5, p6, p7, p8, p9, x0, x1, x2, x4, x5, x6, x7, x8, x9, x10, x11, x12, x13, x14, x15, x16, rfl, hp', bp, bd.2.1.1, bd.2.2.1.1, by simp [bd], by simp [bd], by simp [bd], by simp [bd]⟩
noncomputable def onS : SpecFn := mkS (fun d : Ob => [.agg d.cells, .int .i64 0]) fun d => (.bool (bareZ d.cells), [])
theorem onS_eq (d : Ob) : onS [.agg d.cells, .int .i64 0] [] = some (.bool (bareZ d.cells), []) := mkS_eq (enc := fun d : Ob => [AV.agg d.cells, .int .i64 0]) (fun x y h => by
  simp only [List.cons.injEq, AV.agg.injEq, and_true] at h
  rw [Td.ext h]) d
theorem on_ok : FnC Tryz.prog 173 onS := by
  refine FnC.walk 173 (fn := Tryz.f173) Tryz.func173 rfl (by kernel_rfl) fun d => ?_
  dsimp only
  obtain ⟨p0, p1, p2, q0, q1, q2, z0, z1, z2, z3, z4, z5, z6, z7, z8, p5, p6, p7, p8, p9, x0, x1, x2, x4, x5, x6, x7, x8, x9, x10, x11, x12, x13, x14, x15, x16, hd, hp, bp, hb⟩ := obView d
  rw [hd]
  have hN := nnS_eq ⟨_, hp, bp⟩
  dsimp only at hN
  clear hd d hp bp
  change W _ (Ret _ _ (.bool (bareZ [.int .u64 x0, .int .i64 x1, .int .i64 x2, .int .i64 p0, .int .u64 p1, .list 1 p2, .list 4 q0, .list 1 q1, .int .i64 q2, .int .i64 z0, .int .i64 z1, .int .i64 z2, .int .i64 z3, .int .i64 z4, .int .i64 z5, .int .i64 z6, .int .i64 z7, .int .i64 z8, .list 2 p5, .list 4 p6, .int .i64 p7, .int .i64 p8, .int .i64 p9, .list 1 x4, .list 1 x5, .int .i64 x6, .int .u64 x7, .int .i64 x8, .int .i64 x9, .list 1 x10, .list 1 x11, .list 1 x12, .int .i64 x13, .int .i64 x14, .int .i64 x15, .list 3 x16])) []) _ _ ⟨90, [(0, .agg [.int .u64 x0, .int .i64 x1, .int .i64 x2, .int .i64 p0, .int .u64 p1, .list 1 p2, .list 4 q0, .list 1 q1, .int .i64 q2, .int .i64 z0, .int .i64 z1, .int .i64 z2, .int .i64 z3, .int .i64 z4, .int .i64 z5, .int .i64 z6, .int .i64 z7, .int .i64 z8, .list 2 p5, .list 4 p6, .int .i64 p7, .int .i64 p8, .int .i64 p9, .list 1 x4, .list 1 x5, .int .i64 x6, .int .u64 x7, .int .i64 x8, .int .i64 x9, .list 1 x10, .list 1 x11, .list 1 x12, .int .i64 x13, .int .i64 x14, .int .i64 x15, .list 3 x16]), (1, .int .i64 0)], []⟩
  dsimp only
  have w1 : IntKind.i64.wrap ((x11.length : Int) + x12.length) = (x11.length : Int) + x12.length := w64 (by omega) (by omega)
  obtain ⟨m1, m2, m3⟩ := marks (x2 != 0) (!noneZ [.int .i64 p0, .int .u64 p1, .list 1 p2, .list 4 q0, .list 1 q1, .int .i64 q2, .int .i64 z0, .int .i64 z1, .int .i64 z2, .int .i64 z3, .int .i64 z4, .int .i64 z5, .int .i64 z6, .int .i64 z7, .int .i64 z8, .list 2 p5, .list 4 p6, .int .i64 p7, .int .i64 p8, .int .i64 p9]) (decide (0 < x4.length)) (decide (0 < x5.length)) (x6 != 0) (x7 != 0) (x8 != 0) (x9 != 0) (decide (0 < x10.length)) (decide ((0 : Int) < (x11.length : Int) + (x12.length : Int))) (!x13 == 0 || !x14 == 0) (x15 != 0) (decide (0 < x16.length))
  have hB : bareZ [.int .u64 x0, .int .i64 x1, .int .i64 x2, .int .i64 p0, .int .u64 p1, .list 1 p2, .list 4 q0, .list 1 q1, .int .i64 q2, .int .i64 z0, .int .i64 z1, .int .i64 z2, .int .i64 z3, .int .i64 z4, .int .i64 z5, .int .i64 z6, .int .i64 z7, .int .i64 z8, .list 2 p5, .list 4 p6, .int .i64 p7, .int .i64 p8, .int .i64 p9, .list 1 x4, .list 1 x5, .int .i64 x6, .int .u64 x7, .int .i64 x8, .int .i64 x9, .list 1 x10, .list 1 x11, .list 1 x12, .int .i64 x13, .int .i64 x14, .int .i64 x15, .list 3 x16] = ((x2 == 0) && (((x4.length : Int) == 0) && (((x5.length : Int) == 0) && ((x6 == 0) && ((x7 == 0) && ((x8 == 0) && ((x9 == 0) && (((x10.length : Int) == 0) && (((x11.length : Int) == 0) && (((x12.length : Int) == 0) && ((x13 == 0 && x14 == 0) && ((x15 == 0) && (((x16.length : Int) == 0) && noneZ [.int .i64 p0, .int .u64 p1, .list 1 p2, .list 4 q0, .list 1 q1, .int .i64 q2, .int .i64 z0, .int .i64 z1, .int .i64 z2, .int .i64 z3, .int .i64 z4, .int .i64 z5, .int .i64 z6, .int .i64 z7, .int .i64 z8, .list 2 p5, .list 4 p6, .int .i64 p7, .int .i64 p8, .int .i64 p9]))))))))))))) := rfl
  rw [hB]
  clear hB
  generalize noneZ [.int .i64 p0, .int .u64 p1, .list 1 p2, .list 4 q0, .list 1 q1, .int .i64 q2, .int .i64 z0, .int .i64 z1, .int .i64 z2, .int .i64 z3, .int .i64 z4, .int .i64 z5, .int .i64 z6, .int .i64 z7, .int .i64 z8, .list 2 p5, .list 4 p6, .int .i64 p7, .int .i64 p8, .int .i64 p9] = nz at *
  generalize hS : mk (decide (0 < x16.length)) 4096 (mk (x15 != 0) 2048 (mk (!x13 == 0 || !x14 == 0) 1024 (mk (decide ((0 : Int) < (x11.length : Int) + (x12.length : Int))) 512 (mk (decide (0 < x10.length)) 256 (mk (x9 != 0) 128 (mk (x8 != 0) 64 (mk (x7 != 0) 32 (mk (x6 != 0) 16 (mk (decide (0 < x5.length)) 8 (mk (decide (0 < x4.length)) 4 (mk (!nz) 2 (mk (x2 != 0) 1 0)))))))))))) = S at m1 m2 m3
  have hf := fin_zero m1 m2
  have hZ : (S == 0) = ((x2 == 0) && (((x4.length : Int) == 0) && (((x5.length : Int) == 0) && ((x6 == 0) && ((x7 == 0) && ((x8 == 0) && ((x9 == 0) && (((x10.length : Int) == 0) && (((x11.length : Int) == 0) && (((x12.length : Int) == 0) && ((x13 == 0 && x14 == 0) && ((x15 == 0) && (((x16.length : Int) == 0) && nz))))))))))))) := by
    rw [Bool.eq_iff_iff, beq_iff_eq, m3]
    simp only [Bool.and_eq_true, beq_iff_eq, bne_eq_false_iff_eq, Bool.not_eq_false', decide_eq_false_iff_not, Bool.or_eq_false_iff]
    constructor
    · rintro ⟨a1, a2, a3, a4, a5, a6, a7, a8, a9, a10, ⟨a11, a12⟩, a13, a14⟩
      exact ⟨a1, by omega, by omega, a5, a6, a7, a8, by omega, by omega, by omega, ⟨a11, a12⟩, a13, by omega, a2⟩
    · rintro ⟨a1, a3, a4, a5, a6, a7, a8, a9, a10, a10b, ⟨a11, a12⟩, a13, a14, a2⟩
      exact ⟨a1, a2, by omega, by omega, a5, a6, a7, a8, by omega, by omega, ⟨a11, a12⟩, a13, by omega⟩
  rw [← hZ]
  repeat (first | refine ZS ?_ | refine ZK tm on_specs_ok rfl (by conv => lhs; simp [hN, mkkS_eq, w1, hS, hf]) fun _ => ?_ | refine ZL tm on_specs_ok rfl (by conv => lhs; simp [hN, mkkS_eq, w1, hS, hf]) fun _ => ?_)
  first | exact Ret.dataR rfl (by conv => lhs; simp) (by conv => lhs; simp) (by first | rfl | simp [inlT, inlV]) | fail "no return here"
end Go.Abs.Nz
namespace Go.Abs.Nz
open Go Go.Proofs Go.Abs
set_option maxRecDepth 100000
set_option maxHeartbeats 4000000
set_option linter.unusedSimpArgs false
set_option linter.unusedVariables false
noncomputable def br_specs : NL Spec := [(160, ⟨1, nnS⟩)]
theorem br_specs_ok : ∀ p ∈ br_specs, FnC Tryz.prog p.1 p.2.fn := by
  simp only [br_specs, List.mem_cons, List.not_mem_nil, or_false]
  rintro p rfl
  exact bl_ok
attribute [local simp] instA eqlA tgC tgE eqCpu eqEnds br_specs
noncomputable def brS : SpecFn := mkS (fun d : Ob => [.agg d.cells]) fun d => (.bool (bareZ d.cells), [])
theorem brS_eq (d : Ob) : brS [.agg d.cells] [] = some (.bool (bareZ d.cells), []) := mkS_eq (enc := fun d : Ob => [AV.agg d.cells]) tdInj d
theorem br_ok : FnC Tryz.prog 124 brS := by
  refine FnC.walk 124 (fn := Tryz.f124) Tryz.func124 rfl (by kernel_rfl) fun d => ?_
  dsimp only
  obtain ⟨p0, p1, p2, q0, q1, q2, z0, z1, z2, z3, z4, z5, z6, z7, z8, p5, p6, p7, p8, p9, x0, x1, x2, x4, x5, x6, x7, x8, x9, x10, x11, x12, x13, x14, x15, x16, hd, hp, bp, hb⟩ := obView d
  rw [hd]
  have hN := nnS_eq ⟨_, hp, bp⟩
  dsimp only at hN
  clear hd d hp bp
  have hB : bareZ [.int .u64 x0, .int .i64 x1, .int .i64 x2, .int .i64 p0, .int .u64 p1, .list 1 p2, .list 4 q0, .list 1 q1, .int .i64 q2, .int .i64 z0, .int .i64 z1, .int .i64 z2, .int .i64 z3, .int .i64 z4, .int .i64 z5, .int .i64 z6, .int .i64 z7, .int .i64 z8, .list 2 p5, .list 4 p6, .int .i64 p7, .int .i64 p8, .int .i64 p9, .list 1 x4, .list 1 x5, .int .i64 x6, .int .u64 x7, .int .i64 x8, .int .i64 x9, .list 1 x10, .list 1 x11, .list 1 x12, .int .i64 x13, .int .i64 x14, .int .i64 x15, .list 3 x16] = ((x2 == 0) && (((x4.length : Int) == 0) && (((x5.length : Int) == 0) && ((x6 == 0) && ((x7 == 0) && ((x8 == 0) && ((x9 == 0) && (((x10.length : Int) == 0) && (((x11.length : Int) == 0) && (((x12.length : Int) == 0) && ((x13 == 0 && x14 == 0) && ((x15 == 0) && (((x16.length : Int) == 0) && noneZ [.int .i64 p0, .int .u64 p1, .list 1 p2, .list 4 q0, .list 1 q1, .int .i64 q2, .int .i64 z0, .int .i64 z1, .int .i64 z2, .int .i64 z3, .int .i64 z4, .int .i64 z5, .int .i64 z6, .int .i64 z7, .int .i64 z8, .list 2 p5, .list 4 p6, .int .i64 p7, .int .i64 p8, .int .i64 p9]))))))))))))) := rfl
  rw [hB]
  clear hB
  generalize noneZ [.int .i64 p0, .int .u64 p1, .list 1 p2, .list 4 q0, .list 1 q1, .int .i64 q2, .int .i64 z0, .int .i64 z1, .int .i64 z2, .int .i64 z3, .int .i64 z4, .int .i64 z5, .int .i64 z6, .int .i64 z7, .int .i64 z8, .list 2 p5, .list 4 p6, .int .i64 p7, .int .i64 p8, .int .i64 p9] = nz at *
  change W _ (Ret _ _ (.bool ((x2 == 0) && (((x4.length : Int) == 0) && (((x5.length : Int) == 0) && ((x6 == 0) && ((x7 == 0) && ((x8 == 0) && ((x9 == 0) && (((x10.length : Int) == 0) && (((x11.length : Int) == 0) && (((x12.length : Int) == 0) && ((x13 == 0 && x14 == 0) && ((x15 == 0) && (((x16.length : Int) == 0) && (nz))))))))))))))) []) _ _ ⟨80, [(0, .agg [.int .u64 x0, .int .i64 x1, .int .i64 x2, .int .i64 p0, .int .u64 p1, .list 1 p2, .list 4 q0, .list 1 q1, .int .i64 q2, .int .i64 z0, .int .i64 z1, .int .i64 z2, .int .i64 z3, .int .i64 z4, .int .i64 z5, .int .i64 z6, .int .i64 z7, .int .i64 z8, .list 2 p5, .list 4 p6, .int .i64 p7, .int .i64 p8, .int .i64 p9, .list 1 x4, .list 1 x5, .int .i64 x6, .int .u64 x7, .int .i64 x8, .int .i64 x9, .list 1 x10, .list 1 x11, .list 1 x12, .int .i64 x13, .int .i64 x14, .int .i64 x15, .list 3 x16])], []⟩
  dsimp only
  cases h1 : (x2 == 0) with
  | false =>
    repeat (first | refine ZS ?_ | refine ZK tm br_specs_ok rfl (by conv => lhs; simp [hN, h1]) fun _ => ?_ | refine ZL tm br_specs_ok rfl (by conv => lhs; simp [hN, h1]) fun _ => ?_)
    simp only [h1, Bool.true_and, Bool.false_and, Bool.and_false]
    first | exact Ret.dataR rfl (by conv => lhs; simp) (by conv => lhs; simp) (by first | rfl | simp [inlT, inlV]) | fail "no return here"
  | true =>
    cases h2 : ((x4.length : Int) == 0) with
    | false =>
      repeat (first | refine ZS ?_ | refine ZK tm br_specs_ok rfl (by conv => lhs; simp [hN, h1, h2]) fun _ => ?_ | refine ZL tm br_specs_ok rfl (by conv => lhs; simp [hN, h1, h2]) fun _ => ?_)
      simp only [h1, h2, Bool.true_and, Bool.false_and, Bool.and_false]
      first | exact Ret.dataR rfl (by conv => lhs; simp) (by conv => lhs; simp) (by first | rfl | simp [inlT, inlV]) | fail "no return here"
    | true =>
      cases h3 : ((x5.length : Int) == 0) with
      | false =>
        repeat (first | refine ZS ?_ | refine ZK tm br_specs_ok rfl (by conv => lhs; simp [hN, h1, h2, h3]) fun _ => ?_ | refine ZL tm br_specs_ok rfl (by conv => lhs; simp [hN, h1, h2, h3]) fun _ => ?_)
        simp only [h1, h2, h3, Bool.true_and, Bool.false_and, Bool.and_false]
        first | exact Ret.dataR rfl (by conv => lhs; simp) (by conv => lhs; simp) (by first | rfl | simp [inlT, inlV]) | fail "no return here"
      | true =>
        cases h4 : (x6 == 0) with
        | false =>
          repeat (first | refine ZS ?_ | refine ZK tm br_specs_ok rfl (by conv => lhs; simp [hN, h1, h2, h3, h4]) fun _ => ?_ | refine ZL tm br_specs_ok rfl (by conv => lhs; simp [hN, h1, h2, h3, h4]) fun _ => ?_)
          simp only [h1, h2, h3, h4, Bool.true_and, Bool.false_and, Bool.and_false]
          first | exact Ret.dataR rfl (by conv => lhs; simp) (by conv => lhs; simp) (by first | rfl | simp [inlT, inlV]) | fail "no return here"
        | true =>
          cases h5 : (x7 == 0) with
          | false =>
            repeat (first | refine ZS ?_ | refine ZK tm br_specs_ok rfl (by conv => lhs; simp [hN, h1, h2, h3, h4, h5]) fun _ => ?_ | refine ZL tm br_specs_ok rfl (by conv => lhs; simp [hN, h1, h2, h3, h4, h5]) fun _ => ?_)
            simp only [h1, h2, h3, h4, h5, Bool.true_and, Bool.false_and, Bool.and_false]
            first | exact Ret.dataR rfl (by conv => lhs; simp) (by conv => lhs; simp) (by first | rfl | simp [inlT, inlV]) | fail "no return here"
          | true =>
            cases h6 : (x8 == 0) with
            | false =>
              repeat (first | refine ZS ?_ | refine ZK tm br_specs_ok rfl (by conv => lhs; simp [hN, h1, h2, h3, h4, h5, h6]) fun _ => ?_ | refine ZL tm br_specs_ok rfl (by conv => lhs; simp [hN, h1, h2, h3, h4, h5, h6]) fun _ => ?_)
              simp only [h1, h2, h3, h4, h5, h6, Bool.true_and, Bool.false_and, Bool.and_false]
              first | exact Ret.dataR rfl (by conv => lhs; simp) (by conv => lhs; simp) (by first | rfl | simp [inlT, inlV]) | fail "no return here"
            | true =>
              cases h7 : (x9 == 0) with
              | false =>
                repeat (first | refine ZS ?_ | refine ZK tm br_specs_ok rfl (by conv => lhs; simp [hN, h1, h2, h3, h4, h5, h6, h7]) fun _ => ?_ | refine ZL tm br_specs_ok rfl (by conv => lhs; simp [hN, h1, h2, h3, h4, h5, h6, h7]) fun _ => ?_)
                simp only [h1, h2, h3, h4, h5, h6, h7, Bool.true_and, Bool.false_and, Bool.and_false]
                first | exact Ret.dataR rfl (by conv => lhs; simp) (by conv => lhs; simp) (by first | rfl | simp [inlT, inlV]) | fail "no return here"
              | true =>
                cases h8 : ((x10.length : Int) == 0) with
                | false =>
                  repeat (first | refine ZS ?_ | refine ZK tm br_specs_ok rfl (by conv => lhs; simp [hN, h1, h2, h3, h4, h5, h6, h7, h8]) fun _ => ?_ | refine ZL tm br_specs_ok rfl (by conv => lhs; simp [hN, h1, h2, h3, h4, h5, h6, h7, h8]) fun _ => ?_)
                  simp only [h1, h2, h3, h4, h5, h6, h7, h8, Bool.true_and, Bool.false_and, Bool.and_false]
                  first | exact Ret.dataR rfl (by conv => lhs; simp) (by conv => lhs; simp) (by first | rfl | simp [inlT, inlV]) | fail "no return here"
                | true =>
                  cases h9 : ((x11.length : Int) == 0) with
                  | false =>
                    repeat (first | refine ZS ?_ | refine ZK tm br_specs_ok rfl (by conv => lhs; simp [hN, h1, h2, h3, h4, h5, h6, h7, h8, h9]) fun _ => ?_ | refine ZL tm br_specs_ok rfl (by conv => lhs; simp [hN, h1, h2, h3, h4, h5, h6, h7, h8, h9]) fun _ => ?_)
                    simp only [h1, h2, h3, h4, h5, h6, h7, h8, h9, Bool.true_and, Bool.false_and, Bool.and_false]
                    first | exact Ret.dataR rfl (by conv => lhs; simp) (by conv => lhs; simp) (by first | rfl | simp [inlT, inlV]) | fail "no return here"
                  | true =>
                    cases h10 : ((x12.length : Int) == 0) with
                    | false =>
                      repeat (first | refine ZS ?_ | refine ZK tm br_specs_ok rfl (by conv => lhs; simp [hN, h1, h2, h3, h4, h5, h6, h7, h8, h9, h10]) fun _ => ?_ | refine ZL tm br_specs_ok rfl (by conv => lhs; simp [hN, h1, h2, h3, h4, h5, h6, h7, h8, h9, h10]) fun _ => ?_)
                      simp only [h1, h2, h3, h4, h5, h6, h7, h8, h9, h10, Bool.true_and, Bool.false_and, Bool.and_false]
                      first | exact Ret.dataR rfl (by conv => lhs; simp) (by conv => lhs; simp) (by first | rfl | simp [inlT, inlV]) | fail "no return here"
                    | true =>
                      cases h11 : (x13 == 0 && x14 == 0) with
                      | false =>
                        repeat (first | refine ZS ?_ | refine ZK tm br_specs_ok rfl (by conv => lhs; simp [hN, h1, h2, h3, h4, h5, h6, h7, h8, h9, h10, h11]) fun _ => ?_ | refine ZL tm br_specs_ok rfl (by conv => lhs; simp [hN, h1, h2, h3, h4, h5, h6, h7, h8, h9, h10, h11]) fun _ => ?_)
                        simp only [h1, h2, h3, h4, h5, h6, h7, h8, h9, h10, h11, Bool.true_and, Bool.false_and, Bool.and_false]
                        first | exact Ret.dataR rfl (by conv => lhs; simp) (by conv => lhs; simp) (by first | rfl | simp [inlT, inlV]) | fail "no return here"
                      | true =>
                        cases h12 : (x15 == 0) with
                        | false =>
                          repeat (first | refine ZS ?_ | refine ZK tm br_specs_ok rfl (by conv => lhs; simp [hN, h1, h2, h3, h4, h5, h6, h7, h8, h9, h10, h11, h12]) fun _ => ?_ | refine ZL tm br_specs_ok rfl (by conv => lhs; simp [hN, h1, h2, h3, h4, h5, h6, h7, h8, h9, h10, h11, h12]) fun _ => ?_)
                          simp only [h1, h2, h3, h4, h5, h6, h7, h8, h9, h10, h11, h12, Bool.true_and, Bool.false_and, Bool.and_false]
                          first | exact Ret.dataR rfl (by conv => lhs; simp) (by conv => lhs; simp) (by first | rfl | simp [inlT, inlV]) | fail "no return here"
                        | true =>
                          cases h13 : ((x16.length : Int) == 0) with
                          | false =>
                            repeat (first | refine ZS ?_ | refine ZK tm br_specs_ok rfl (by conv => lhs; simp [hN, h1, h2, h3, h4, h5, h6, h7, h8, h9, h10, h11, h12, h13]) fun _ => ?_ | refine ZL tm br_specs_ok rfl (by conv => lhs; simp [hN, h1, h2, h3, h4, h5, h6, h7, h8, h9, h10, h11, h12, h13]) fun _ => ?_)
                            simp only [h1, h2, h3, h4, h5, h6, h7, h8, h9, h10, h11, h12, h13, Bool.true_and, Bool.false_and, Bool.and_false]
                            first | exact Ret.dataR rfl (by conv => lhs; simp) (by conv => lhs; simp) (by first | rfl | simp [inlT, inlV]) | fail "no return here"
                          | true =>
                            repeat (first | refine ZS ?_ | refine ZK tm br_specs_ok rfl (by conv => lhs; simp [hN, h1, h2, h3, h4, h5, h6, h7, h8, h9, h10, h11, h12, h13]) fun _ => ?_ | refine ZL tm br_specs_ok rfl (by conv => lhs; simp [hN, h1, h2, h3, h4, h5, h6, h7, h8, h9, h10, h11, h12, h13]) fun _ => ?_)
                            simp only [h1, h2, h3, h4, h5, h6, h7, h8, h9, h10, h11, h12, h13, Bool.true_and, Bool.and_true]
                            first | exact Ret.dataR rfl (by conv => lhs; simp) (by conv => lhs; simp) (by first | rfl | simp [inlT, inlV]) | fail "no return here"
def zO? (d : Ob) : Bool := match d.cells with
  | .int _ i :: .int _ k :: _ => (i == 0) && ((k == 0) && bareZ d.cells)
  | _ => false
noncomputable def zeS : SpecFn := mkS (fun d : Ob => [.agg d.cells]) fun d => (.bool (zO? d), [])
theorem zeS_eq (d : Ob) : zeS [.agg d.cells] [] = some (.bool (zO? d), []) := mkS_eq (enc := fun d : Ob => [AV.agg d.cells]) tdInj d
noncomputable def ze_specs : NL Spec := [(124, ⟨1, brS⟩), (173, ⟨1, onS⟩)]
theorem ze_specs_ok : ∀ p ∈ ze_specs, FnC Tryz.prog p.1 p.2.fn := by
  simp only [ze_specs, List.mem_cons, List.not_mem_nil, or_false]
  rintro p (rfl | rfl)
  · exact br_ok
  · exact on_ok
attribute [local simp] ze_specs
theorem zep_ok : FnC Tryz.prog 159 zeS := by
  refine FnC.walk 159 (fn := Tryz.f159) Tryz.func159 rfl (by kernel_rfl) fun d => ?_
  dsimp only
  have k1 := brS_eq d
  have k2 := onS_eq d
  obtain ⟨p0, p1, p2, q0, q1, q2, z0, z1, z2, z3, z4, z5, z6, z7, z8, p5, p6, p7, p8, p9, x0, x1, x2, x4, x5, x6, x7, x8, x9, x10, x11, x12, x13, x14, x15, x16, hd, -, -, -⟩ := obView d
  have hz : zO? d = ((x0 == 0) && ((x1 == 0) && bareZ d.cells)) := by unfold zO?; rw [hd]
  rw [hz]
  generalize bareZ d.cells = b at *
  rw [hd] at k1 k2 ⊢
  clear hz hd d
  change W _ (Ret _ _ (.bool ((x0 == 0) && ((x1 == 0) && b))) []) _ _ ⟨15, [(0, .agg [.int .u64 x0, .int .i64 x1, .int .i64 x2, .int .i64 p0, .int .u64 p1, .list 1 p2, .list 4 q0, .list 1 q1, .int .i64 q2, .int .i64 z0, .int .i64 z1, .int .i64 z2, .int .i64 z3, .int .i64 z4, .int .i64 z5, .int .i64 z6, .int .i64 z7, .int .i64 z8, .list 2 p5, .list 4 p6, .int .i64 p7, .int .i64 p8, .int .i64 p9, .list 1 x4, .list 1 x5, .int .i64 x6, .int .u64 x7, .int .i64 x8, .int .i64 x9, .list 1 x10, .list 1 x11, .list 1 x12, .int .i64 x13, .int .i64 x14, .int .i64 x15, .list 3 x16])], []⟩
  dsimp only
  cases h1 : (x0 == 0) with
  | false =>
    repeat (first | refine ZS ?_ | refine ZK tm ze_specs_ok rfl (by conv => lhs; simp [k1, k2, h1]) fun _ => ?_ | refine ZL tm ze_specs_ok rfl (by conv => lhs; simp [k1, k2, h1]) fun _ => ?_)
    simp only [h1, Bool.true_and, Bool.false_and, Bool.and_false]
    first | exact Ret.dataR rfl (by conv => lhs; simp) (by conv => lhs; simp) (by first | rfl | simp [inlT, inlV]) | fail "no return here"
  | true =>
    cases h2 : (x1 == 0) with
    | false =>
      repeat (first | refine ZS ?_ | refine ZK tm ze_specs_ok rfl (by conv => lhs; simp [k1, k2, h1, h2]) fun _ => ?_ | refine ZL tm ze_specs_ok rfl (by conv => lhs; simp [k1, k2, h1, h2]) fun _ => ?_)
      simp only [h1, h2, Bool.true_and, Bool.false_and, Bool.and_false]
      first | exact Ret.dataR rfl (by conv => lhs; simp) (by conv => lhs; simp) (by first | rfl | simp [inlT, inlV]) | fail "no return here"
    | true =>
      repeat (first | refine ZS ?_ | refine ZK tm ze_specs_ok rfl (by conv => lhs; simp [k1, k2, h1, h2]) fun _ => ?_ | refine ZL tm ze_specs_ok rfl (by conv => lhs; simp [k1, k2, h1, h2]) fun _ => ?_)
      simp only [h1, h2, Bool.true_and, Bool.and_true]
      first | exact Ret.dataR rfl (by conv => lhs; simp) (by conv => lhs; simp) (by first | rfl | simp [inlT, inlV]) | fail "no return here"
end Go.Abs.Nz
namespace Go.Abs.Nz
open Go Go.Proofs Go.Abs
set_option maxRecDepth 100000
set_option maxHeartbeats 4000000
set_option linter.unusedSimpArgs false
set_option linter.unusedVariables false
theorem tgP : Tryz.prog.eqGuardType Tryz.prog.depth 178 = false := by kernel_rfl
theorem tgS : Tryz.prog.eqGuardType Tryz.prog.depth 181 = false := by kernel_rfl
theorem tgI : Tryz.prog.eqGuardType Tryz.prog.depth 202 = false := by kernel_rfl
theorem thP : Tryz.prog.stoodInHeld 178 = false := by kernel_rfl
theorem thS : Tryz.prog.stoodInHeld 181 = false := by kernel_rfl
theorem thI : Tryz.prog.stoodInHeld 202 = false := by kernel_rfl
theorem eqPg (a : Int) (b : Bool) : eqV Tryz.prog 9 178 (.agg [.int .u64 a, .bool b]) (.agg [.int .u64 a, .bool b]) = some true := by
  simp [eqV, Tryz.underlying178, Tryz.underlying26, Tryz.underlying4, thP, eqFs, partV]
theorem eqSl (a b c d : Int) : eqV Tryz.prog 9 181 (.agg [.int .i64 a, .int .u64 b, .int .u64 c, .int .i64 d]) (.agg [.int .i64 a, .int .u64 b, .int .u64 c, .int .i64 d]) = some true := by
  simp [eqV, Tryz.underlying181, Tryz.underlying26, Tryz.underlying3, thS, eqFs, partV]
theorem eqIn (a b c d : Int) : eqV Tryz.prog 9 202 (.agg [.int .i64 a, .int .i64 b, .int .i64 c, .int .i64 d]) (.agg [.int .i64 a, .int .i64 b, .int .i64 c, .int .i64 d]) = some true := by
  simp [eqV, Tryz.underlying202, Tryz.underlying3, Tryz.underlying2, thI, eqFs, partV]
theorem bne_self' {α : Type} [BEq α] [LawfulBEq α] (a : α) : (a != a) = false := by simp only [bne, beq_self_eq_true, Bool.not_true]
attribute [local simp] instA binOpA eqlA tgP tgS tgI eqPg eqSl eqIn
structure Rw (P : Program) (t : TypeId) where
  rows : List (List AV)
  ty : ∀ r ∈ rows, TyR P 8 t r
  bd : rows.length ≤ 10000
theorem Rw.ext {P : Program} {t : TypeId} {a b : Rw P t} (h : a.rows = b.rows) : a = b := by
  cases a; cases b; simp only at h; subst h; rfl
noncomputable def smS (t : TypeId) (sz : Nat) : SpecFn := mkS (fun d : Rw Tryz.prog t => [.list sz d.rows, .list sz d.rows]) fun _ => (.bool true, [])
theorem smS_eq (t : TypeId) (sz : Nat) (d : Rw Tryz.prog t) : smS t sz [.list sz d.rows, .list sz d.rows] [] = some (.bool true, []) :=
  mkS_eq (enc := fun d : Rw Tryz.prog t => [AV.list sz d.rows, .list sz d.rows]) (fun x y _ => rfl) d

theorem smw_ok : FnC Tryz.prog 105 (smS 2 1) := by
  refine FnC.walk 105 (fn := Tryz.f105) Tryz.func105 rfl (by kernel_rfl) fun d => ?_
  obtain ⟨rows, hty, hl⟩ := d
  change W _ (Ret _ _ (.bool true) []) _ _ ⟨26, [(0, .list 1 rows), (1, .list 1 rows)], []⟩
  have cap : rows.length ≤ 9223372036854775807 := capT hl
  repeat (first | refine ZS ?_ | refine ZK tm no_specs rfl (by conv => lhs; simp [cap]) fun _ => ?_ | refine ZL tm no_specs rfl (by conv => lhs; simp [cap]) fun _ => ?_)
  refine W.loop rfl (ι := { k : Nat // k ≤ rows.length }) (fun k => ⟨26, [(0, .list 1 rows), (1, .list 1 rows), (12, .int .i64 rows.length), (13, .int .i64 (k.1 : Nat))], []⟩) (fun k => rows.length - k.1) ⟨0, by omega⟩ (AS.le_of rfl ⟨rfl, rfl, rfl, rfl, trivial⟩ (fun _ => rfl)) ?_
  rintro ⟨k, hk⟩
  by_cases hk2 : k = rows.length
  · subst hk2
    repeat (first | refine ZS ?_ | refine ZK tm no_specs rfl (by conv => lhs; simp [cap]) fun _ => ?_ | refine ZL tm no_specs rfl (by conv => lhs; simp [cap]) fun _ => ?_)
    first | exact Ret.dataR rfl (by conv => lhs; simp) (by conv => lhs; simp) (by first | rfl | simp [inlT, inlV]) | fail "no return here"
  · have hlt : k < rows.length := by omega
    obtain ⟨r, hr⟩ := get_lt hlt
    have hm := List.mem_of_getElem? hr
    obtain ⟨u, rfl, -⟩ := by simpa only [TyR_int Tryz.underlying2] using hty r hm
    have q1 : (k : Int) < rows.length := by omega
    have q2 : ¬ rows.length ≤ k := by omega
    have hw : IntKind.i64.wrap ((k : Int) + 1) = ((k + 1 : Nat) : Int) := w64 (by omega) (by omega)
    repeat (first | refine ZS ?_ | refine ZK tm no_specs rfl (by conv => lhs; simp [q1, q2, hr, hw, cap, bne_self']) fun _ => ?_ | refine ZL tm no_specs rfl (by conv => lhs; simp [q1, q2, hr, hw, cap, bne_self']) fun _ => ?_)
    exact ⟨⟨k + 1, hlt⟩, by dsimp only; omega, AS.le_of rfl ⟨rfl, rfl, rfl, rfl, trivial⟩ (fun _ => rfl)⟩
theorem smi_ok : FnC Tryz.prog 106 (smS 26 1) := by
  refine FnC.walk 106 (fn := Tryz.f106) Tryz.func106 rfl (by kernel_rfl) fun d => ?_
  obtain ⟨rows, hty, hl⟩ := d
  change W _ (Ret _ _ (.bool true) []) _ _ ⟨26, [(0, .list 1 rows), (1, .list 1 rows)], []⟩
  have cap : rows.length ≤ 9223372036854775807 := capT hl
  repeat (first | refine ZS ?_ | refine ZK tm no_specs rfl (by conv => lhs; simp [cap]) fun _ => ?_ | refine ZL tm no_specs rfl (by conv => lhs; simp [cap]) fun _ => ?_)
  refine W.loop rfl (ι := { k : Nat // k ≤ rows.length }) (fun k => ⟨26, [(0, .list 1 rows), (1, .list 1 rows), (12, .int .i64 rows.length), (13, .int .i64 (k.1 : Nat))], []⟩) (fun k => rows.length - k.1) ⟨0, by omega⟩ (AS.le_of rfl ⟨rfl, rfl, rfl, rfl, trivial⟩ (fun _ => rfl)) ?_
  rintro ⟨k, hk⟩
  by_cases hk2 : k = rows.length
  · subst hk2
    repeat (first | refine ZS ?_ | refine ZK tm no_specs rfl (by conv => lhs; simp [cap]) fun _ => ?_ | refine ZL tm no_specs rfl (by conv => lhs; simp [cap]) fun _ => ?_)
    first | exact Ret.dataR rfl (by conv => lhs; simp) (by conv => lhs; simp) (by first | rfl | simp [inlT, inlV]) | fail "no return here"
  · have hlt : k < rows.length := by omega
    obtain ⟨r, hr⟩ := get_lt hlt
    have hm := List.mem_of_getElem? hr
    obtain ⟨u, rfl, -⟩ := by simpa only [TyR_int Tryz.underlying26] using hty r hm
    have q1 : (k : Int) < rows.length := by omega
    have q2 : ¬ rows.length ≤ k := by omega
    have hw : IntKind.i64.wrap ((k : Int) + 1) = ((k + 1 : Nat) : Int) := w64 (by omega) (by omega)
    repeat (first | refine ZS ?_ | refine ZK tm no_specs rfl (by conv => lhs; simp [q1, q2, hr, hw, cap, bne_self']) fun _ => ?_ | refine ZL tm no_specs rfl (by conv => lhs; simp [q1, q2, hr, hw, cap, bne_self']) fun _ => ?_)
    exact ⟨⟨k + 1, hlt⟩, by dsimp only; omega, AS.le_of rfl ⟨rfl, rfl, rfl, rfl, trivial⟩ (fun _ => rfl)⟩
theorem sms_ok : FnC Tryz.prog 168 (smS 9 1) := by
  refine FnC.walk 168 (fn := Tryz.f168) Tryz.func168 rfl (by kernel_rfl) fun d => ?_
  obtain ⟨rows, hty, hl⟩ := d
  change W _ (Ret _ _ (.bool true) []) _ _ ⟨26, [(0, .list 1 rows), (1, .list 1 rows)], []⟩
  have cap : rows.length ≤ 9223372036854775807 := capT hl
  repeat (first | refine ZS ?_ | refine ZK tm no_specs rfl (by conv => lhs; simp [cap]) fun _ => ?_ | refine ZL tm no_specs rfl (by conv => lhs; simp [cap]) fun _ => ?_)
  refine W.loop rfl (ι := { k : Nat // k ≤ rows.length }) (fun k => ⟨26, [(0, .list 1 rows), (1, .list 1 rows), (12, .int .i64 rows.length), (13, .int .i64 (k.1 : Nat))], []⟩) (fun k => rows.length - k.1) ⟨0, by omega⟩ (AS.le_of rfl ⟨rfl, rfl, rfl, rfl, trivial⟩ (fun _ => rfl)) ?_
  rintro ⟨k, hk⟩
  by_cases hk2 : k = rows.length
  · subst hk2
    repeat (first | refine ZS ?_ | refine ZK tm no_specs rfl (by conv => lhs; simp [cap]) fun _ => ?_ | refine ZL tm no_specs rfl (by conv => lhs; simp [cap]) fun _ => ?_)
    first | exact Ret.dataR rfl (by conv => lhs; simp) (by conv => lhs; simp) (by first | rfl | simp [inlT, inlV]) | fail "no return here"
  · have hlt : k < rows.length := by omega
    obtain ⟨r, hr⟩ := get_lt hlt
    have hm := List.mem_of_getElem? hr
    obtain ⟨u, rfl, -⟩ := by simpa only [TyR_string Tryz.underlying9] using hty r hm
    have q1 : (k : Int) < rows.length := by omega
    have q2 : ¬ rows.length ≤ k := by omega
    have hw : IntKind.i64.wrap ((k : Int) + 1) = ((k + 1 : Nat) : Int) := w64 (by omega) (by omega)
    repeat (first | refine ZS ?_ | refine ZK tm no_specs rfl (by conv => lhs; simp [q1, q2, hr, hw, cap, bne_self']) fun _ => ?_ | refine ZL tm no_specs rfl (by conv => lhs; simp [q1, q2, hr, hw, cap, bne_self']) fun _ => ?_)
    exact ⟨⟨k + 1, hlt⟩, by dsimp only; omega, AS.le_of rfl ⟨rfl, rfl, rfl, rfl, trivial⟩ (fun _ => rfl)⟩
theorem smp_ok : FnC Tryz.prog 147 (smS 178 2) := by
  refine FnC.walk 147 (fn := Tryz.f147) Tryz.func147 rfl (by kernel_rfl) fun d => ?_
  obtain ⟨rows, hty, hl⟩ := d
  change W _ (Ret _ _ (.bool true) []) _ _ ⟨26, [(0, .list 2 rows), (1, .list 2 rows)], []⟩
  have cap : rows.length ≤ 9223372036854775807 := capT hl
  repeat (first | refine ZS ?_ | refine ZK tm no_specs rfl (by conv => lhs; simp [cap]) fun _ => ?_ | refine ZL tm no_specs rfl (by conv => lhs; simp [cap]) fun _ => ?_)
  refine W.loop rfl (ι := { k : Nat // k ≤ rows.length }) (fun k => ⟨26, [(0, .list 2 rows), (1, .list 2 rows), (12, .int .i64 rows.length), (13, .int .i64 (k.1 : Nat))], []⟩) (fun k => rows.length - k.1) ⟨0, by omega⟩ (AS.le_of rfl ⟨rfl, rfl, rfl, rfl, trivial⟩ (fun _ => rfl)) ?_
  rintro ⟨k, hk⟩
  by_cases hk2 : k = rows.length
  · subst hk2
    repeat (first | refine ZS ?_ | refine ZK tm no_specs rfl (by conv => lhs; simp [cap]) fun _ => ?_ | refine ZL tm no_specs rfl (by conv => lhs; simp [cap]) fun _ => ?_)
    first | exact Ret.dataR rfl (by conv => lhs; simp) (by conv => lhs; simp) (by first | rfl | simp [inlT, inlV]) | fail "no return here"
  · have hlt : k < rows.length := by omega
    obtain ⟨r, hr⟩ := get_lt hlt
    have hm := List.mem_of_getElem? hr
    obtain ⟨u1, u2, rfl, -⟩ := viewPageRef (hty r hm)
    have q1 : (k : Int) < rows.length := by omega
    have q2 : ¬ rows.length ≤ k := by omega
    have hw : IntKind.i64.wrap ((k : Int) + 1) = ((k + 1 : Nat) : Int) := w64 (by omega) (by omega)
    repeat (first | refine ZS ?_ | refine ZK tm no_specs rfl (by conv => lhs; simp [q1, q2, hr, hw, cap, bne_self']) fun _ => ?_ | refine ZL tm no_specs rfl (by conv => lhs; simp [q1, q2, hr, hw, cap, bne_self']) fun _ => ?_)
    exact ⟨⟨k + 1, hlt⟩, by dsimp only; omega, AS.le_of rfl ⟨rfl, rfl, rfl, rfl, trivial⟩ (fun _ => rfl)⟩
theorem sml_ok : FnC Tryz.prog 148 (smS 181 4) := by
  refine FnC.walk 148 (fn := Tryz.f148) Tryz.func148 rfl (by kernel_rfl) fun d => ?_
  obtain ⟨rows, hty, hl⟩ := d
  change W _ (Ret _ _ (.bool true) []) _ _ ⟨26, [(0, .list 4 rows), (1, .list 4 rows)], []⟩
  have cap : rows.length ≤ 9223372036854775807 := capT hl
  repeat (first | refine ZS ?_ | refine ZK tm no_specs rfl (by conv => lhs; simp [cap]) fun _ => ?_ | refine ZL tm no_specs rfl (by conv => lhs; simp [cap]) fun _ => ?_)
  refine W.loop rfl (ι := { k : Nat // k ≤ rows.length }) (fun k => ⟨26, [(0, .list 4 rows), (1, .list 4 rows), (12, .int .i64 rows.length), (13, .int .i64 (k.1 : Nat))], []⟩) (fun k => rows.length - k.1) ⟨0, by omega⟩ (AS.le_of rfl ⟨rfl, rfl, rfl, rfl, trivial⟩ (fun _ => rfl)) ?_
  rintro ⟨k, hk⟩
  by_cases hk2 : k = rows.length
  · subst hk2
    repeat (first | refine ZS ?_ | refine ZK tm no_specs rfl (by conv => lhs; simp [cap]) fun _ => ?_ | refine ZL tm no_specs rfl (by conv => lhs; simp [cap]) fun _ => ?_)
    first | exact Ret.dataR rfl (by conv => lhs; simp) (by conv => lhs; simp) (by first | rfl | simp [inlT, inlV]) | fail "no return here"
  · have hlt : k < rows.length := by omega
    obtain ⟨r, hr⟩ := get_lt hlt
    have hm := List.mem_of_getElem? hr
    obtain ⟨u1, u2, u3, u4, rfl, -⟩ := viewSlot (hty r hm)
    have q1 : (k : Int) < rows.length := by omega
    have q2 : ¬ rows.length ≤ k := by omega
    have hw : IntKind.i64.wrap ((k : Int) + 1) = ((k + 1 : Nat) : Int) := w64 (by omega) (by omega)
    repeat (first | refine ZS ?_ | refine ZK tm no_specs rfl (by conv => lhs; simp [q1, q2, hr, hw, cap, bne_self']) fun _ => ?_ | refine ZL tm no_specs rfl (by conv => lhs; simp [q1, q2, hr, hw, cap, bne_self']) fun _ => ?_)
    exact ⟨⟨k + 1, hlt⟩, by dsimp only; omega, AS.le_of rfl ⟨rfl, rfl, rfl, rfl, trivial⟩ (fun _ => rfl)⟩
structure Nms (P : Program) (t : TypeId) where
  rows : List (List AV)
  ty : ∀ r ∈ rows, TyR P 8 t r
  bd : rows.length ≤ 10000
  bs : ∀ r ∈ rows, bdL 10000 r = true
noncomputable def snS : SpecFn := mkS (fun d : Nms Tryz.prog 94 => [.list 3 d.rows, .list 3 d.rows]) fun _ => (.bool true, [])
theorem snS_eq (d : Nms Tryz.prog 94) : snS [.list 3 d.rows, .list 3 d.rows] [] = some (.bool true, []) :=
  mkS_eq (enc := fun d : Nms Tryz.prog 94 => [AV.list 3 d.rows, .list 3 d.rows]) (fun x y _ => rfl) d
theorem sna_ok : FnC Tryz.prog 107 snS := by
  refine FnC.walk 107 (fn := Tryz.f107) Tryz.func107 rfl (by kernel_rfl) fun d => ?_
  obtain ⟨rows, hty, hl, hbs⟩ := d
  change W _ (Ret _ _ (.bool true) []) _ _ ⟨84, [(0, .list 3 rows), (1, .list 3 rows)], []⟩
  have cap : rows.length ≤ 9223372036854775807 := capT hl
  repeat (first | refine ZS ?_ | refine ZK tm no_specs rfl (by conv => lhs; simp [cap]) fun _ => ?_ | refine ZL tm no_specs rfl (by conv => lhs; simp [cap]) fun _ => ?_)
  refine W.loop rfl (ι := { k : Nat // k ≤ rows.length }) (fun k => ⟨84, [(0, .list 3 rows), (1, .list 3 rows), (13, .int .i64 rows.length), (14, .int .i64 (k.1 : Nat))], []⟩) (fun k => rows.length - k.1) ⟨0, by omega⟩ (AS.le_of rfl ⟨rfl, rfl, rfl, rfl, trivial⟩ (fun _ => rfl)) ?_
  rintro ⟨k, hk⟩
  by_cases hk2 : k = rows.length
  · subst hk2
    repeat (first | refine ZS ?_ | refine ZK tm no_specs rfl (by conv => lhs; simp [cap]) fun _ => ?_ | refine ZL tm no_specs rfl (by conv => lhs; simp [cap]) fun _ => ?_)
    first | exact Ret.dataR rfl (by conv => lhs; simp) (by conv => lhs; simp) (by first | rfl | simp [inlT, inlV]) | fail "no return here"
  · have hlt : k < rows.length := by omega
    obtain ⟨r, hr⟩ := get_lt hlt
    have hm := List.mem_of_getElem? hr
    obtain ⟨s, n, ids, rfl, hi⟩ := nameRow (hty r hm) (hbs r hm)
    obtain ⟨s', n', ids', e, -, hids⟩ := viewName (hty _ hm)
    simp only [List.cons.injEq, AV.str.injEq, AV.int.injEq, AV.list.injEq, true_and, and_true] at e
    obtain ⟨rfl, rfl, rfl⟩ := e
    have q1 : (k : Int) < rows.length := by omega
    have q2 : ¬ rows.length ≤ k := by omega
    have ci : ids.length ≤ 9223372036854775807 := capT hi
    have hw : IntKind.i64.wrap ((k : Int) + 1) = ((k + 1 : Nat) : Int) := w64 (by omega) (by omega)
    repeat (first | refine ZS ?_ | refine ZK tm no_specs rfl (by conv => lhs; simp [q1, q2, hr, cap, ci, bne_self']) fun _ => ?_ | refine ZL tm no_specs rfl (by conv => lhs; simp [q1, q2, hr, cap, ci, bne_self']) fun _ => ?_)
    refine W.loop rfl (ι := { j : Nat // j ≤ ids.length }) (fun j => ⟨84, [(0, .list 3 rows), (1, .list 3 rows), (5, .int .i64 (k : Nat)), (13, .int .i64 rows.length), (14, .int .i64 (k : Nat)), (61, .int .i64 ids.length), (62, .int .i64 (j.1 : Nat))], []⟩) (fun j => ids.length - j.1) ⟨0, by omega⟩ (AS.le_of rfl ⟨rfl, rfl, rfl, rfl, rfl, rfl, rfl, trivial⟩ (fun _ => rfl)) ?_
    rintro ⟨j, hj⟩
    by_cases hj2 : j = ids.length
    · subst hj2
      repeat (first | refine ZS ?_ | refine ZK tm no_specs rfl (by conv => lhs; simp [cap, ci, hw]) fun _ => ?_ | refine ZL tm no_specs rfl (by conv => lhs; simp [cap, ci, hw]) fun _ => ?_)
      exact ⟨⟨k + 1, hlt⟩, by dsimp only; omega, AS.le_of rfl ⟨rfl, rfl, rfl, rfl, trivial⟩ (fun _ => rfl)⟩
    · have hlj : j < ids.length := by omega
      obtain ⟨u, hu⟩ := get_lt hlj
      have hmu := List.mem_of_getElem? hu
      obtain ⟨u, rfl, -⟩ := by simpa only [TyR_int Tryz.underlying26] using hids u hmu
      have q3 : (j : Int) < ids.length := by omega
      have q4 : ¬ ids.length ≤ j := by omega
      have hv : IntKind.i64.wrap ((j : Int) + 1) = ((j + 1 : Nat) : Int) := w64 (by omega) (by omega)
      repeat (first | refine ZS ?_ | refine ZK tm no_specs rfl (by conv => lhs; simp [q1, q2, q3, q4, hr, hu, hv, cap, ci, bne_self']) fun _ => ?_ | refine ZL tm no_specs rfl (by conv => lhs; simp [q1, q2, q3, q4, hr, hu, hv, cap, ci, bne_self']) fun _ => ?_)
      exact ⟨⟨j + 1, hlj⟩, by dsimp only; omega, AS.le_of rfl ⟨rfl, rfl, rfl, rfl, rfl, rfl, rfl, trivial⟩ (fun _ => rfl)⟩
noncomputable def spr_specs : NL Spec := [(168, ⟨1, smS 9 1⟩)]
theorem spr_specs_ok : ∀ p ∈ spr_specs, FnC Tryz.prog p.1 p.2.fn := by
  simp only [spr_specs, List.mem_cons, List.not_mem_nil, or_false]
  rintro p rfl
  exact sms_ok
attribute [local simp] spr_specs
noncomputable def sprS : SpecFn := mkS (fun d : Prg => [.agg d.cells, .agg d.cells]) fun _ => (.bool true, [])
theorem sprS_eq (d : Prg) : sprS [.agg d.cells, .agg d.cells] [] = some (.bool true, []) :=
  mkS_eq (enc := fun d : Prg => [AV.agg d.cells, .agg d.cells]) (fun x y _ => rfl) d
theorem spr_ok : FnC Tryz.prog 146 sprS := by
  refine FnC.walk 146 (fn := Tryz.f146) Tryz.func146 rfl (by kernel_rfl) fun d => ?_
  obtain ⟨cs, ty, bd⟩ := d
  obtain ⟨x0, x1, x2, rfl, h0, h1, -⟩ := viewProgram ty
  simp only [bdL, bdV, Bool.and_eq_true, decide_eq_true_eq, Bool.and_true] at bd
  have cap : x0.length ≤ 9223372036854775807 := capT bd.1.1
  have c1 := smS_eq 9 1 ⟨x1, h1, bd.2.1⟩
  dsimp only at c1
  change W _ (Ret _ _ (.bool true) []) _ _ ⟨46, [(0, .agg [.list 4 x0, .list 1 x1, .int .i64 x2]), (1, .agg [.list 4 x0, .list 1 x1, .int .i64 x2])], []⟩
  have hl := bd.1.1
  clear bd ty h1
  repeat (first | refine ZS ?_ | refine ZK tm spr_specs_ok rfl (by conv => lhs; simp [cap, c1, bne_self']) fun _ => ?_ | refine ZL tm spr_specs_ok rfl (by conv => lhs; simp [cap, c1, bne_self']) fun _ => ?_)
  refine W.loop rfl (ι := { k : Nat // k ≤ x0.length }) (fun k => ⟨46, [(2, .ptr 48 1 0 0), (3, .ptr 64 1 0 0), (30, .int .i64 x0.length), (31, .int .i64 (k.1 : Nat))], _⟩) (fun k => x0.length - k.1) ⟨0, by omega⟩ (AS.le_of rfl ⟨rfl, rfl, rfl, rfl, trivial⟩ (fun _ => rfl)) ?_
  rintro ⟨k, hk⟩
  by_cases hk2 : k = x0.length
  · subst hk2
    repeat (first | refine ZS ?_ | refine ZK tm spr_specs_ok rfl (by conv => lhs; simp [cap]) fun _ => ?_ | refine ZL tm spr_specs_ok rfl (by conv => lhs; simp [cap]) fun _ => ?_)
    first | exact Ret.dataR rfl (by conv => lhs; simp) (by conv => lhs; simp) (by first | rfl | simp [inlT, inlV]) | fail "no return here"
  · have hlt : k < x0.length := by omega
    obtain ⟨r, hr⟩ := get_lt hlt
    have hm := List.mem_of_getElem? hr
    obtain ⟨u1, u2, u3, u4, rfl, -⟩ := viewInstr (h0 r hm)
    have q1 : (k : Int) < x0.length := by omega
    have q2 : ¬ x0.length ≤ k := by omega
    have hw : IntKind.i64.wrap ((k : Int) + 1) = ((k + 1 : Nat) : Int) := w64 (by omega) (by omega)
    repeat (first | refine ZS ?_ | refine ZK tm spr_specs_ok rfl (by conv => lhs; simp [q1, q2, hr, hw, cap, bne_self']) fun _ => ?_ | refine ZL tm spr_specs_ok rfl (by conv => lhs; simp [q1, q2, hr, hw, cap, bne_self']) fun _ => ?_)
    exact ⟨⟨k + 1, hlt⟩, by dsimp only; omega, AS.le_of rfl ⟨rfl, rfl, rfl, rfl, trivial⟩ (fun _ => rfl)⟩
end Go.Abs.Nz
namespace Go.Abs.Nz
open Go Go.Proofs Go.Abs
set_option maxRecDepth 100000
set_option maxHeartbeats 4000000
set_option linter.unusedSimpArgs false
set_option linter.unusedVariables false
theorem bytes_of {rows : List (List AV)} : (∀ r ∈ rows, TyR Tryz.prog 8 5 r) → ∃ ns, bytesA rows = some ns := by
  induction rows with
  | nil => exact fun _ => ⟨[], rfl⟩
  | cons r rs ih =>
    intro h
    obtain ⟨ns, hn⟩ := ih fun r hr => h r (List.mem_cons_of_mem _ hr)
    obtain ⟨u, rfl, -⟩ := by simpa only [TyR_int Tryz.underlying5] using h r (by simp)
    exact ⟨u :: ns, by simp only [bytesA, hn, Option.map_some]⟩
theorem eqCpuS (a b c d e f g h i : Int) : eqV Tryz.prog 9 34 (.agg [.int .i64 a, .int .i64 b, .int .i64 c, .int .i64 d, .int .i64 e, .int .i64 f, .int .i64 g, .int .i64 h, .int .i64 i]) (.agg [.int .i64 a, .int .i64 b, .int .i64 c, .int .i64 d, .int .i64 e, .int .i64 f, .int .i64 g, .int .i64 h, .int .i64 i]) = some true := by
  simp [eqCpu]
theorem eqEndsS (a b : Int) : eqV Tryz.prog 9 41 (.agg [.int .i64 a, .int .i64 b]) (.agg [.int .i64 a, .int .i64 b]) = some true := by
  simp [eqEnds]
attribute [local simp] instA binOpA eqlA tgC tgE eqCpuS eqEndsS
noncomputable def smp_specs : NL Spec := [(106, ⟨1, smS 26 1⟩), (146, ⟨1, sprS⟩), (147, ⟨1, smS 178 2⟩), (148, ⟨1, smS 181 4⟩)]
theorem smp_specs_ok : ∀ p ∈ smp_specs, FnC Tryz.prog p.1 p.2.fn := by
  simp only [smp_specs, List.mem_cons, List.not_mem_nil, or_false]
  rintro p (rfl | rfl | rfl | rfl)
  · exact smi_ok
  · exact spr_ok
  · exact smp_ok
  · exact sml_ok
attribute [local simp] smp_specs
noncomputable def spcS : SpecFn := mkS (fun d : Prc => [.agg d.cells, .agg d.cells]) fun _ => (.bool true, [])
theorem spcS_eq (d : Prc) : spcS [.agg d.cells, .agg d.cells] [] = some (.bool true, []) :=
  mkS_eq (enc := fun d : Prc => [AV.agg d.cells, .agg d.cells]) (fun x y _ => rfl) d
theorem spc_ok : FnC Tryz.prog 104 spcS := by
  refine FnC.walk 104 (fn := Tryz.f104) Tryz.func104 rfl (by kernel_rfl) fun d => ?_
  obtain ⟨cs, ty, bd⟩ := d
  obtain ⟨p0, p1, p2, p3, p4, p5, p6, p7, p8, p9, rfl, -, -, h2, h3, h4, h5, h6, -, -, -⟩ := viewProcess ty
  have bp : bdL 10000 p3 = true := by simp only [bdL, bdV, bdL_append, Bool.and_eq_true, Bool.true_and, true_and] at bd; exact bd.2.1
  have cP := sprS_eq ⟨p3, h3, bp⟩
  obtain ⟨q0, q1, q2, rfl, -, -, -⟩ := viewProgram h3
  obtain ⟨z0, z1, z2, z3, z4, z5, z6, z7, z8, rfl, -⟩ := viewCPU h4
  simp only [List.cons_append, List.nil_append, bdL, bdV, Bool.and_eq_true, decide_eq_true_eq, Bool.and_true, Bool.true_and, true_and] at bd
  have c2 := smS_eq 26 1 ⟨p2, h2, by simp [bd]⟩
  have c5 := smS_eq 178 2 ⟨p5, h5, by simp [bd]⟩
  have c6 := smS_eq 181 4 ⟨p6, h6, by simp [bd]⟩
  dsimp only at cP c2 c5 c6
  change W _ (Ret _ _ (.bool true) []) _ _ ⟨73, [(0, .agg [.int .i64 p0, .int .u64 p1, .list 1 p2, .list 4 q0, .list 1 q1, .int .i64 q2, .int .i64 z0, .int .i64 z1, .int .i64 z2, .int .i64 z3, .int .i64 z4, .int .i64 z5, .int .i64 z6, .int .i64 z7, .int .i64 z8, .list 2 p5, .list 4 p6, .int .i64 p7, .int .i64 p8, .int .i64 p9]), (1, .agg [.int .i64 p0, .int .u64 p1, .list 1 p2, .list 4 q0, .list 1 q1, .int .i64 q2, .int .i64 z0, .int .i64 z1, .int .i64 z2, .int .i64 z3, .int .i64 z4, .int .i64 z5, .int .i64 z6, .int .i64 z7, .int .i64 z8, .list 2 p5, .list 4 p6, .int .i64 p7, .int .i64 p8, .int .i64 p9])], []⟩
  clear bd ty h2 h3 h4 h5 h6 bp
  repeat (first | refine ZS ?_ | refine ZK tm smp_specs_ok rfl (by conv => lhs; simp [cP, c2, c5, c6]) fun _ => ?_ | refine ZL tm smp_specs_ok rfl (by conv => lhs; simp [cP, c2, c5, c6]) fun _ => ?_)
  first | exact Ret.dataR rfl (by conv => lhs; simp) (by conv => lhs; simp) (by first | rfl | simp [inlT, inlV]) | fail "no return here"
noncomputable def sob_specs : NL Spec := [(106, ⟨1, smS 26 1⟩), (104, ⟨1, spcS⟩), (105, ⟨1, smS 2 1⟩), (107, ⟨1, snS⟩)]
theorem sob_specs_ok : ∀ p ∈ sob_specs, FnC Tryz.prog p.1 p.2.fn := by
  simp only [sob_specs, List.mem_cons, List.not_mem_nil, or_false]
  rintro p (rfl | rfl | rfl | rfl)
  · exact smi_ok
  · exact spc_ok
  · exact smw_ok
  · exact sna_ok
attribute [local simp] sob_specs
noncomputable def sobS : SpecFn := mkS (fun d : Ob => [.agg d.cells, .agg d.cells]) fun _ => (.bool true, [])
theorem sobS_eq (d : Ob) : sobS [.agg d.cells, .agg d.cells] [] = some (.bool true, []) :=
  mkS_eq (enc := fun d : Ob => [AV.agg d.cells, .agg d.cells]) (fun x y _ => rfl) d
theorem sob_ok : FnC Tryz.prog 53 sobS := by
  refine FnC.walk 53 (fn := Tryz.f53) Tryz.func53 rfl (by kernel_rfl) fun d => ?_
  obtain ⟨cs, ty, bd⟩ := d
  obtain ⟨x0, x1, x2, xp, x4, x5, x6, x7, x8, x9, x10, x11, x12, x13, x14, x15, x16, rfl, -, -, -, hp, h4, h5, -, -, -, -, h10, h11, h12, -, -, -, h16⟩ := viewObject ty
  have bp : bdL 10000 xp = true := by simp only [bdL, bdV, bdL_append, Bool.and_eq_true, Bool.true_and, true_and] at bd; exact bd.1
  have cP := spcS_eq ⟨xp, hp, bp⟩
  obtain ⟨p0, p1, p2, p3, p4, p5, p6, p7, p8, p9, rfl, -, -, -, h3, hc, -, -, -, -, -⟩ := viewProcess hp
  obtain ⟨q0, q1, q2, rfl, -, -, -⟩ := viewProgram h3
  obtain ⟨z0, z1, z2, z3, z4, z5, z6, z7, z8, rfl, -⟩ := viewCPU hc
  simp only [List.cons_append, List.nil_append, bdL, bdV, Bool.and_eq_true, decide_eq_true_eq, Bool.and_true, Bool.true_and, true_and] at bd
  have c4 := smS_eq 2 1 ⟨x4, h4, by simp [bd]⟩
  have c10 := smS_eq 26 1 ⟨x10, h10, by simp [bd]⟩
  have c16 := snS_eq ⟨x16, h16, by simp [bd], fun r hr => bdRows_mem (by simp [bd]) hr⟩
  obtain ⟨n5, b5⟩ := bytes_of h5
  obtain ⟨n11, b11⟩ := bytes_of h11
  obtain ⟨n12, b12⟩ := bytes_of h12
  dsimp only [List.cons_append, List.nil_append] at cP c4 c10 c16
  change W _ (Ret _ _ (.bool true) []) _ _ ⟨125, [(0, .agg [.int .u64 x0, .int .i64 x1, .int .i64 x2, .int .i64 p0, .int .u64 p1, .list 1 p2, .list 4 q0, .list 1 q1, .int .i64 q2, .int .i64 z0, .int .i64 z1, .int .i64 z2, .int .i64 z3, .int .i64 z4, .int .i64 z5, .int .i64 z6, .int .i64 z7, .int .i64 z8, .list 2 p5, .list 4 p6, .int .i64 p7, .int .i64 p8, .int .i64 p9, .list 1 x4, .list 1 x5, .int .i64 x6, .int .u64 x7, .int .i64 x8, .int .i64 x9, .list 1 x10, .list 1 x11, .list 1 x12, .int .i64 x13, .int .i64 x14, .int .i64 x15, .list 3 x16]), (1, .agg [.int .u64 x0, .int .i64 x1, .int .i64 x2, .int .i64 p0, .int .u64 p1, .list 1 p2, .list 4 q0, .list 1 q1, .int .i64 q2, .int .i64 z0, .int .i64 z1, .int .i64 z2, .int .i64 z3, .int .i64 z4, .int .i64 z5, .int .i64 z6, .int .i64 z7, .int .i64 z8, .list 2 p5, .list 4 p6, .int .i64 p7, .int .i64 p8, .int .i64 p9, .list 1 x4, .list 1 x5, .int .i64 x6, .int .u64 x7, .int .i64 x8, .int .i64 x9, .list 1 x10, .list 1 x11, .list 1 x12, .int .i64 x13, .int .i64 x14, .int .i64 x15, .list 3 x16])], []⟩
  clear bd ty hp h3 hc h4 h5 h10 h11 h12 h16 bp
  repeat (first | refine ZS ?_ | refine ZK tm sob_specs_ok rfl (by conv => lhs; simp [cP, c4, c10, c16, b5, b11, b12]) fun _ => ?_ | refine ZL tm sob_specs_ok rfl (by conv => lhs; simp [cP, c4, c10, c16, b5, b11, b12]) fun _ => ?_)
  first | exact Ret.dataR rfl (by conv => lhs; simp) (by conv => lhs; simp) (by first | rfl | simp [inlT, inlV]) | fail "no return here"
end Go.Abs.Nz
namespace Go.Abs.Nz
open Go Go.Proofs Go.Abs
set_option maxRecDepth 100000
set_option maxHeartbeats 4000000
set_option linter.unusedSimpArgs false
set_option linter.unusedVariables false
theorem obLeafs : (leafs Tryz.prog 44).length = 36 := by kernel_rfl
@[simp] theorem ob_len (o : Ob) : o.cells.length = 36 := o.len'.trans obLeafs
@[simp] theorem ob_drop (o : Ob) (l : List AV) (n : Nat) (h : 36 ≤ n) : (o.cells ++ l).drop n = l.drop (n - 36) := by
  rw [List.drop_append, ob_len, List.drop_eq_nil_of_le (by rw [ob_len]; omega), List.nil_append]
@[simp] theorem ob_take (o : Ob) (l : List AV) (n : Nat) (h : 36 ≤ n) : (o.cells ++ l).take n = o.cells ++ l.take (n - 36) := by
  rw [List.take_append, ob_len, List.take_of_length_le (by rw [ob_len]; omega)]
@[simp] theorem ob_take0 (o : Ob) : o.cells.take 36 = o.cells := List.take_of_length_le (by rw [ob_len]; omega)
@[simp] theorem ob_get (o : Ob) (l : List AV) (n : Nat) (h : 36 ≤ n) : (o.cells ++ l)[n]? = l[n - 36]? := by
  rw [List.getElem?_append_right (by rw [ob_len]; omega), ob_len]
structure Tok where
  id : Int
  mode : Int
  obj : Ob
  want : Int
  pin : Bool
  due : Bool
@[simp] def Tok.c (t : Tok) : List AV := .int .u64 t.id :: .int .i64 t.mode :: (t.obj.cells ++ [.int .i64 t.want, .bool t.pin, .bool t.due])
theorem Tok.c_inj {s t : Tok} (h : s.c = t.c) : s = t := by
  obtain ⟨a, b, o, c, d, e⟩ := s
  obtain ⟨a', b', o', c', d', e'⟩ := t
  simp only [Tok.c, List.cons.injEq, AV.int.injEq, true_and] at h
  obtain ⟨rfl, rfl, h⟩ := h
  obtain ⟨h1, h2⟩ := List.append_inj h (by simp)
  simp only [List.cons.injEq, AV.int.injEq, AV.bool.injEq, true_and, and_true] at h2
  obtain ⟨rfl, rfl, rfl⟩ := h2
  rw [Td.ext h1]
theorem rows_inj {s t : List Tok} (h : s.map Tok.c = t.map Tok.c) : s = t := by
  induction s generalizing t with
  | nil => cases t with
    | nil => rfl
    | cons => simp at h
  | cons x r ih =>
    cases t with
    | nil => simp at h
    | cons y q =>
      simp only [List.map_cons, List.cons.injEq] at h
      rw [Tok.c_inj h.1, ih h.2]
structure Tks where
  node : Int
  toks : List Tok
  bd : toks.length ≤ 9000
def Tks.v (d : Tks) : AV := .agg [.int .i64 d.node, .list 41 (d.toks.map Tok.c)]
theorem Tks.v_inj {s t : Tks} (h : s.v = t.v) : s = t := by
  obtain ⟨a, l, b⟩ := s
  obtain ⟨a', l', b'⟩ := t
  simp only [Tks.v, AV.agg.injEq, List.cons.injEq, AV.int.injEq, AV.list.injEq, true_and, and_true] at h
  obtain ⟨rfl, h⟩ := h
  cases rows_inj h
  rfl
def tyFsP (q : TypeId → List AV → Option (List AV)) : List TypeId → List AV → Option (List AV)
  | [], xs => some xs
  | t :: r, xs => (q t xs).bind (tyFsP q r)
def tyB : List AV → Option (List AV)
  | .bool _ :: r => some r
  | _ => none
def tyI (k : IntKind) : List AV → Option (List AV)
  | .int k' m :: r => if k = k' ∧ (Lit.int k m).wf = true then some r else none
  | _ => none
def tyS (n : Nat) : List AV → Option (List AV)
  | .list sz [] :: r => if sz = n then some r else none
  | _ => none
def tyP (P : Program) : Nat → TypeId → List AV → Option (List AV)
  | 0, _, _ => none
  | n + 1, t, xs => match P.underlying t with
    | some .bool => tyB xs
    | some (.int k) => tyI k xs
    | some (.slice e) => tyS (P.cellsOf e) xs
    | some (.struct fs) => tyFsP (tyP P n) (fs.toList.map (·.type)) xs
    | some (.array m e) => tyFsP (tyP P n) (List.replicate m e) xs
    | _ => none
theorem tyFsP_ok {q : TypeId → List AV → Option (List AV)} {Q : TypeId → List AV → Prop} (h : ∀ t xs r, q t xs = some r → ∃ a, xs = a ++ r ∧ Q t a) : ∀ (ts : List TypeId) (xs r : List AV), tyFsP q ts xs = some r → ∃ a, xs = a ++ r ∧ TyFs Q ts a
  | [], xs, r, e => by
    simp only [tyFsP, Option.some.injEq] at e
    subst e
    exact ⟨[], rfl, rfl⟩
  | t :: ts, xs, r, e => by
    simp only [tyFsP] at e
    obtain ⟨m, e1, e2⟩ := Option.bind_eq_some_iff.1 e
    obtain ⟨a, rfl, ha⟩ := h _ _ _ e1
    obtain ⟨b, rfl, hb⟩ := tyFsP_ok h ts m r e2
    exact ⟨a ++ b, by rw [List.append_assoc], a, b, rfl, ha, hb⟩
theorem tyP_ok {P : Program} : ∀ (n : Nat) (t : TypeId) (xs r : List AV), tyP P n t xs = some r → ∃ a, xs = a ++ r ∧ TyR P n t a
  | 0, t, xs, r, h => by simp [tyP] at h
  | n + 1, t, xs, r, h => by
    rw [tyP] at h
    split at h
    · rename_i hu
      unfold tyB at h
      split at h
      · rename_i b r'
        cases h
        exact ⟨[.bool b], rfl, by simp only [TyR, hu]; exact ⟨b, rfl⟩⟩
      · cases h
    · rename_i k hu
      unfold tyI at h
      split at h
      · rename_i k' m r'
        split at h
        · rename_i hk
          obtain ⟨rfl, hw⟩ := hk
          cases h
          exact ⟨[.int k m], rfl, by simp only [TyR, hu]; exact ⟨m, rfl, hw⟩⟩
        · cases h
      · cases h
    · rename_i e hu
      unfold tyS at h
      split at h
      · rename_i sz r'
        split at h
        · rename_i hk
          subst hk
          cases h
          refine ⟨[.list _ []], rfl, ?_⟩
          simp only [TyR, hu]
          exact ⟨[], rfl, by simp [maxLen], by simp⟩
        · cases h
      · cases h
    · rename_i fs hu
      obtain ⟨a, e1, e2⟩ := tyFsP_ok (Q := TyR P n) (fun t xs r h => tyP_ok n t xs r h) _ _ _ h
      refine ⟨a, e1, ?_⟩
      simp only [TyR, hu]
      exact e2
    · rename_i m e hu
      obtain ⟨a, e1, e2⟩ := tyFsP_ok (Q := TyR P n) (fun t xs r h => tyP_ok n t xs r h) _ _ _ h
      refine ⟨a, e1, ?_⟩
      simp only [TyR, hu]
      exact e2
    · cases h
def zN : List AV := [.int .u64 0, .int .i64 0, .int .i64 0, .int .i64 0, .int .u64 0, .list 1 [], .list 4 [], .list 1 [], .int .i64 0, .int .i64 0, .int .i64 0, .int .i64 0, .int .i64 0, .int .i64 0, .int .i64 0, .int .i64 0, .int .i64 0, .int .i64 0, .list 2 [], .list 4 [], .int .i64 0, .int .i64 0, .int .i64 0, .list 1 [], .list 1 [], .int .i64 0, .int .u64 0, .int .i64 0, .int .i64 0, .list 1 [], .list 1 [], .list 1 [], .int .i64 0, .int .i64 0, .int .i64 0, .list 3 []]
theorem zN_eq : nrmL Tryz.prog (leafs Tryz.prog 44) zO = zN := by kernel_rfl
theorem zN_p : tyP Tryz.prog 8 44 zN = some [] := by kernel_rfl
theorem zObTy : TyR Tryz.prog 8 44 zN := by
  obtain ⟨a, h1, h2⟩ := tyP_ok 8 _ _ _ zN_p
  rw [List.append_nil] at h1
  rw [h1]
  exact h2
theorem zN_b : bdL 10000 zN = true := by kernel_rfl
def zOb : Ob := ⟨zN, zObTy, zN_b⟩
def fnd (id : Int) : List Tok → Option Tok
  | [] => none
  | t :: r => if t.id = id then some t else fnd id r
attribute [local simp] instA
end Go.Abs.Nz
namespace Go.Abs.Nz
open Go Go.Proofs Go.Abs
set_option maxRecDepth 100000
set_option maxHeartbeats 4000000
set_option linter.unusedSimpArgs false
set_option linter.unusedVariables false
def putL (t : Tok) : Bool → List Tok → List Tok
  | done, [] => if done = true then [] else [t]
  | done, r :: rs => (if done = false ∧ t.id ≤ r.id then [t] else []) ++ ((if r.id = t.id then [] else [r]) ++ putL t (done || decide (t.id ≤ r.id)) rs)
def Tok.gone (t : Tok) : Bool := t.mode == 0 && t.want == 0
def put (t : Tok) (l : List Tok) : List Tok := putL t t.gone l
attribute [local simp] instA
theorem m1 : (1 : Nat) ≤ maxLen := by decide
theorem m2 : (2 : Nat) ≤ maxLen := by decide
theorem first_all {n : Nat} {l : List (List AV)} (h : l.length = n) : firstRows n l = l := by
  subst h
  simp [firstRows]
end Go.Abs.Nz
namespace Go.Abs.Nz
open Go Go.Proofs Go.Abs
set_option maxRecDepth 100000
set_option maxHeartbeats 4000000
set_option linter.unusedSimpArgs false
set_option linter.unusedVariables false
def okM (m : Int) : Bool := m == 1 || m == 2
def okN (m : Int) : Bool := decide (0 ≤ m) && decide (m ≤ 127)
noncomputable def boS (f : Int → Bool) : SpecFn := mkS (fun d : Int => [.int .i64 d]) fun d => (.bool (f d), [])
theorem boS_eq (f : Int → Bool) (d : Int) : boS f [.int .i64 d] [] = some (.bool (f d), []) :=
  mkS_eq (enc := fun d : Int => [AV.int .i64 d]) (fun x y h => by
    simp only [List.cons.injEq, AV.int.injEq, true_and, and_true] at h
    rw [h]) d
attribute [local simp] instA
theorem ob_view (o : Ob) : ∃ i r, o.cells = .int .u64 i :: r := by
  obtain ⟨x0, x1, x2, xp, x4, x5, x6, x7, x8, x9, x10, x11, x12, x13, x14, x15, x16, h, -⟩ := viewObject o.ty
  exact ⟨x0, _, h⟩
noncomputable def oid (o : Ob) : Int := (ob_view o).choose
theorem oid_eq (o : Ob) : ∃ r, o.cells = .int .u64 (oid o) :: r := (ob_view o).choose_spec
def hdA : List AV → AP AV
  | x :: _ => .ret x
  | [] => .fail
theorem mkv_hd (P : Program) (t : TypeId) (cells : List AV) : mkv P t cells = match aggT P t with
  | some true => match szOf P t with
    | some s => if s ≤ cells.length then .ret (.agg (cells.take s)) else .fail
    | none => .fail
  | some false => hdA cells
  | none => .fail := by
  unfold mkv hdA
  rfl
@[local simp] theorem hdA_cons (x : AV) (r : List AV) : hdA (x :: r) = .ret x := rfl
@[local simp] theorem hdA_ob (o : Ob) (l : List AV) : hdA (o.cells ++ l) = .ret (.int .u64 (oid o)) := by
  obtain ⟨r, h⟩ := oid_eq o
  rw [h]
  rfl
@[local simp] theorem hdA_ob' (o : Ob) : hdA o.cells = .ret (.int .u64 (oid o)) := by
  obtain ⟨r, h⟩ := oid_eq o
  rw [h]
  rfl
attribute [-simp] mkv
attribute [local simp] mkv_hd
end Go.Abs.Nz
namespace Go.Abs.Nz
open Go Go.Proofs Go.Abs
set_option maxRecDepth 100000
set_option maxHeartbeats 4000000
set_option linter.unusedSimpArgs false
set_option linter.unusedVariables false
attribute [local simp] instA
attribute [-simp] mkv
attribute [local simp] mkv_hd hdA_cons hdA_ob hdA_ob'
noncomputable def fi_specs : NL Spec := [(159, ⟨1, zeS⟩)]
attribute [local simp] fi_specs
noncomputable def fitS : SpecFn := mkS (fun d : Ob × Int => [.agg d.1.cells, .int .u64 d.2]) fun d => (.bool (oid d.1 == d.2 || zO? d.1), [])
theorem fitS_eq (o : Ob) (id : Int) : fitS [.agg o.cells, .int .u64 id] [] = some (.bool (oid o == id || zO? o), []) :=
  mkS_eq (enc := fun d : Ob × Int => [AV.agg d.1.cells, .int .u64 d.2]) (fun x y h => by
    obtain ⟨a, b⟩ := x
    obtain ⟨a', b'⟩ := y
    simp only [List.cons.injEq, AV.agg.injEq, AV.int.injEq, true_and, and_true] at h
    obtain ⟨h, rfl⟩ := h
    cases Td.ext h
    rfl) (o, id)
end Go.Abs.Nz
namespace Go.Abs.Nz
open Go Go.Proofs Go.Abs
set_option maxRecDepth 100000
set_option maxHeartbeats 4000000
set_option linter.unusedSimpArgs false
set_option linter.unusedVariables false
attribute [local simp] instA
end Go.Abs.Nz
namespace Go.Abs.Nz
open Go Go.Proofs Go.Abs
set_option maxRecDepth 100000
set_option maxHeartbeats 4000000
set_option linter.unusedSimpArgs false
set_option linter.unusedVariables false
attribute [local simp] instA
attribute [-simp] mkv
attribute [local simp] mkv_hd hdA_cons hdA_ob hdA_ob'
end Go.Abs.Nz
namespace Go.Abs.Nz
open Go Go.Proofs Go.Abs
set_option maxRecDepth 100000
set_option maxHeartbeats 4000000
set_option linter.unusedSimpArgs false
set_option linter.unusedVariables false
attribute [local simp] instA binOpA
def sp0 (id : Int) : Int := IntKind.i64.wrap (id.fdiv (2 ^ min 56 IntKind.u64.bits))
def sp1 (id : Int) : Int := IntKind.i64.wrap (IntKind.u64.wrap ↑((id.fdiv (2 ^ min 40 IntKind.u64.bits) % 2 ^ IntKind.u64.bits).toNat &&& 65535 % 2 ^ IntKind.u64.bits))
def sp2 (id : Int) : Int := IntKind.i64.wrap (IntKind.u64.wrap ↑((id % 2 ^ IntKind.u64.bits).toNat &&& 1099511627775 % 2 ^ IntKind.u64.bits))
noncomputable def spS : SpecFn := mkS (fun d : Int => [.int .u64 d]) fun d => (.tup [.int .i64 (sp0 d), .int .i64 (sp1 d), .int .i64 (sp2 d)], [])
theorem spS_eq (id : Int) : spS [.int .u64 id] [] = some (.tup [.int .i64 (sp0 id), .int .i64 (sp1 id), .int .i64 (sp2 id)], []) :=
  mkS_eq (enc := fun d : Int => [AV.int .u64 d]) (fun x y h => by
    simp only [List.cons.injEq, AV.int.injEq, true_and, and_true] at h
    rw [h]) id
theorem sp_ref : FnC Tryz.prog 76 spS := by
  refine FnC.walk 76 (fn := Tryz.f76) Tryz.func76 rfl (by kernel_rfl) fun id => ?_
  change W _ (Ret _ _ (.tup [.int .i64 (sp0 id), .int .i64 (sp1 id), .int .i64 (sp2 id)]) []) _ _ ⟨15, [(0, .int .u64 id)], []⟩
  repeat (first | refine ZS ?_ | refine ZK tm no_specs rfl (by conv => lhs; simp) fun _ => ?_ | refine ZL tm no_specs rfl (by conv => lhs; simp) fun _ => ?_)
  simp only [sp0, sp1, sp2]
  first | exact Ret.dataR rfl (by conv => lhs; simp) (by conv => lhs; simp) (by first | rfl | simp [inlT, inlV]) | fail "no return here"
theorem sp_id : FnC Tryz.prog 75 spS := by
  refine FnC.walk 75 (fn := Tryz.f75) Tryz.func75 rfl (by kernel_rfl) fun id => ?_
  change W _ (Ret _ _ (.tup [.int .i64 (sp0 id), .int .i64 (sp1 id), .int .i64 (sp2 id)]) []) _ _ ⟨15, [(0, .int .u64 id)], []⟩
  repeat (first | refine ZS ?_ | refine ZK tm no_specs rfl (by conv => lhs; simp) fun _ => ?_ | refine ZL tm no_specs rfl (by conv => lhs; simp) fun _ => ?_)
  simp only [sp0, sp1, sp2]
  first | exact Ret.dataR rfl (by conv => lhs; simp) (by conv => lhs; simp) (by first | rfl | simp [inlT, inlV]) | fail "no return here"
attribute [-simp] mkv
attribute [local simp] mkv_hd hdA_cons hdA_ob hdA_ob'
end Go.Abs.Nz
namespace Go.Abs.Nz
open Go Go.Proofs Go.Abs
set_option maxRecDepth 100000
set_option maxHeartbeats 4000000
set_option linter.unusedSimpArgs false
set_option linter.unusedVariables false
attribute [local simp] instA
attribute [-simp] mkv
attribute [local simp] mkv_hd hdA_cons hdA_ob hdA_ob'
structure Msg where
  fr : Int
  to : Int
  kind : Int
  id : Int
  mode : Int
  obj : Ob
  a : Int
  b : Int
  c : Int
  e : Int
@[simp] def Msg.v (m : Msg) : List AV := .int .i64 m.fr :: .int .i64 m.to :: .int .i64 m.kind :: .int .u64 m.id :: .int .i64 m.mode :: (m.obj.cells ++ [.int .u64 m.a, .int .i64 m.b, .int .u64 m.c, .int .i64 m.e])
theorem msgLeafs : leafs Tryz.prog 46 = 3 :: 3 :: 3 :: 26 :: 3 :: (leafs Tryz.prog 44 ++ [26, 2, 26, 3]) := by rw [lf46, lf44]; rfl
theorem msg_nrm (m : Msg) : nrmL Tryz.prog (leafs Tryz.prog 46) m.v = m.v := by
  rw [msgLeafs]
  simp only [Msg.v, nrmL]
  rw [nrmL_append _ _ _ _ m.obj.len'.symm, m.obj.nrmL]
  simp [nrmL, nrmV]
theorem msg_nrm0 (f t k i m : Int) : nrmL Tryz.prog (leafs Tryz.prog 46) (.int .i64 f :: .int .i64 t :: .int .i64 k :: .int .u64 i :: .int .i64 m :: (zO ++ [.int .u64 0, .int .i64 0, .int .u64 0, .int .i64 0])) = (⟨f, t, k, i, m, zOb, 0, 0, 0, 0⟩ : Msg).v := by
  rw [msgLeafs]
  simp only [Msg.v, nrmL]
  rw [nrmL_append _ _ _ _ (by rw [obLeafs]; rfl), zN_eq]
  simp [nrmL, nrmV, zOb]
def rM (n : Int) (l : List Tok) (m : Msg) : AV := .tup [.agg [.int .i64 n, .list 41 (l.map Tok.c)], .agg m.v]
end Go.Abs.Nz
namespace Go.Abs.Nz
open Go Go.Proofs Go.Abs
set_option maxRecDepth 100000
set_option maxHeartbeats 4000000
set_option linter.unusedSimpArgs false
set_option linter.unusedVariables false
attribute [local simp] slice3A slice3C instA
attribute [local simp] instA
attribute [-simp] mkv
attribute [local simp] mkv_hd hdA_cons hdA_ob hdA_ob'
end Go.Abs.Nz
namespace Go.Abs.Nz
open Go Go.Proofs Go.Abs
set_option maxRecDepth 100000
set_option maxHeartbeats 4000000
set_option linter.unusedSimpArgs false
set_option linter.unusedVariables false
attribute [local simp] instA
attribute [-simp] mkv
attribute [local simp] mkv_hd hdA_cons hdA_ob hdA_ob'
end Go.Abs.Nz
namespace Go.Abs.Nz
open Go Go.Proofs Go.Abs
set_option maxRecDepth 100000
set_option maxHeartbeats 4000000
set_option linter.unusedSimpArgs false
set_option linter.unusedVariables false
attribute [local simp] instA
attribute [-simp] mkv
attribute [local simp] mkv_hd hdA_cons hdA_ob hdA_ob'
noncomputable def ls_specs : NL Spec := [(53, ⟨1, sobS⟩)]
attribute [local simp] ls_specs
end Go.Abs.Nz
