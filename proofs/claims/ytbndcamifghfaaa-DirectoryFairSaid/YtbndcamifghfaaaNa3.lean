/- Whether an object is zero. Conditions: none. -/
import Derived.Test.YtbndcamifghfaaaNa2
import Derived.Test.YtbndcamifghfaaaAb8
import Derived.Shelf.Sort.Plain
import Derived.Test.YtbndcamifghfaaaProg
namespace Go.Abs.Na
open Go Go.Proofs Go.Abs
set_option maxRecDepth 100000
set_option maxHeartbeats 4000000
set_option linter.unusedSimpArgs false
set_option linter.unusedVariables false
/-- A zero cell. -/
def zc : AV → Bool
  | .int _ n => n == 0
  | .list _ r => r.length == 0
  | _ => false
def cpuZ (a b c d e f g h i : Int) : Bool := a == 0 && (b == 0 && (c == 0 && (d == 0 && (e == 0 && (f == 0 && (g == 0 && (h == 0 && i == 0)))))))
theorem tcI : Try.prog.cellsOf 2 = 1 := by kernel_rfl
theorem tiI : (Try.prog.info? 2).isSome = true := by kernel_rfl
theorem tcJ : Try.prog.cellsOf 3 = 1 := by kernel_rfl
theorem tiJ : (Try.prog.info? 3).isSome = true := by kernel_rfl
theorem tgC : Try.prog.eqGuardType Try.prog.depth 38 = false := by kernel_rfl
theorem thC : Try.prog.stoodInHeld 38 = false := by kernel_rfl
theorem tgE : Try.prog.eqGuardType Try.prog.depth 45 = false := by kernel_rfl
theorem eqCpu (a b c d e f g h i a' b' c' d' e' f' g' h' i' : Int) : eqV Try.prog 9 38 (.agg [.int .i64 a, .int .i64 b, .int .i64 c, .int .i64 d, .int .i64 e, .int .i64 f, .int .i64 g, .int .i64 h, .int .i64 i]) (.agg [.int .i64 a', .int .i64 b', .int .i64 c', .int .i64 d', .int .i64 e', .int .i64 f', .int .i64 g', .int .i64 h', .int .i64 i']) =
    some (a == a' && (b == b' && (c == c' && (d == d' && (e == e' && (f == f' && (g == g' && (h == h' && i == i')))))))) := by
  simp [eqV, Try.underlying38, Try.underlying36, Try.underlying2, Try.underlying3, thC, eqFs, eqIs, partV, List.range, List.range.loop, tcI, tiI]
theorem eqEnds (a b a' b' : Int) : eqV Try.prog 9 45 (.agg [.int .i64 a, .int .i64 b]) (.agg [.int .i64 a', .int .i64 b']) = some (a == a' && b == b') := by
  simp [eqV, Try.underlying45, Try.underlying3, eqFs, eqIs, partV, List.range, List.range.loop, tcJ, tiJ]
attribute [local simp] instA eqlA tgC tgE eqCpu eqEnds
def restZ : List AV → Bool
  | [.int .i64 p0, .int .u64 p1, .list 1 p2, .list 4 q0, .list 1 q1, .int .i64 q2, .int .i64 z0, .int .i64 z1, .int .i64 z2, .int .i64 z3, .int .i64 z4, .int .i64 z5, .int .i64 z6, .int .i64 z7, .int .i64 z8, .list 2 p5, .list 4 p6, .int .i64 p7, .int .i64 p8, .int .i64 p9] => ((p2.length : Int) + q0.length + q1.length + p5.length + p6.length == 0) && ((q2 == 0) && (cpuZ z0 z1 z2 z3 z4 z5 z6 z7 z8 && ((p7 == 0) && (p8 == 0))))
  | _ => false
noncomputable def rsS : SpecFn := mkS (fun d : Prc => [.agg d.cells]) fun d => (.bool (restZ d.cells), [])
theorem rsS_eq (d : Prc) : rsS [.agg d.cells] [] = some (.bool (restZ d.cells), []) := mkS_eq (enc := fun d : Prc => [AV.agg d.cells]) tdInj d
theorem rs_ok : FnC Try.prog 239 rsS := by
  refine FnC.walk 239 (fn := Try.f239) Try.func239 rfl (by kernel_rfl) fun d => ?_
  obtain ⟨cs, ty, bd⟩ := d
  obtain ⟨p0, p1, p2, p3, p4, p5, p6, p7, p8, p9, rfl, -, -, -, h3, h4, -, -, -, -, -⟩ := viewProcess ty
  obtain ⟨q0, q1, q2, rfl, -, -, -⟩ := viewProgram h3
  obtain ⟨z0, z1, z2, z3, z4, z5, z6, z7, z8, rfl, -⟩ := viewCPU h4
  simp only [List.cons_append, List.nil_append, bdL, bdV, Bool.and_eq_true, decide_eq_true_eq, Bool.and_true, Bool.true_and, true_and] at bd
  change W _ (Ret _ _ (.bool (((p2.length : Int) + q0.length + q1.length + p5.length + p6.length == 0) && ((q2 == 0) && (cpuZ z0 z1 z2 z3 z4 z5 z6 z7 z8 && ((p7 == 0) && (p8 == 0)))))) []) _ _ ⟨47, [(0, .agg [.int .i64 p0, .int .u64 p1, .list 1 p2, .list 4 q0, .list 1 q1, .int .i64 q2, .int .i64 z0, .int .i64 z1, .int .i64 z2, .int .i64 z3, .int .i64 z4, .int .i64 z5, .int .i64 z6, .int .i64 z7, .int .i64 z8, .list 2 p5, .list 4 p6, .int .i64 p7, .int .i64 p8, .int .i64 p9])], []⟩
  clear h3 h4
  have w1 : IntKind.i64.wrap ((p2.length : Int) + q0.length) = (p2.length : Int) + q0.length := w64 (by omega) (by omega)
  have w2 : IntKind.i64.wrap ((p2.length : Int) + q0.length + q1.length) = (p2.length : Int) + q0.length + q1.length := w64 (by omega) (by omega)
  have w3 : IntKind.i64.wrap ((p2.length : Int) + q0.length + q1.length + p5.length) = (p2.length : Int) + q0.length + q1.length + p5.length := w64 (by omega) (by omega)
  obtain ⟨n, hn⟩ : ∃ n : Int, (p2.length : Int) + q0.length + q1.length + p5.length + p6.length = n := ⟨_, rfl⟩
  have w4 : IntKind.i64.wrap ((p2.length : Int) + q0.length + q1.length + p5.length + p6.length) = n := by rw [← hn]; exact w64 (by omega) (by omega)
  rw [hn]
  unfold cpuZ
  cases h1 : (n == 0) with
  | false =>
    repeat (first | refine ZS ?_ | refine ZK tm no_specs rfl (by conv => lhs; simp [w1, w2, w3, w4, h1]) fun _ => ?_ | refine ZL tm no_specs rfl (by conv => lhs; simp [w1, w2, w3, w4, h1]) fun _ => ?_)
    simp only [h1, Bool.true_and, Bool.false_and, Bool.and_false]
    first | exact Ret.dataR rfl (by conv => lhs; simp) (by conv => lhs; simp) (by first | rfl | simp [inlT, inlV]) | fail "no return here"
  | true =>
    cases h2 : (q2 == 0) with
    | false =>
      repeat (first | refine ZS ?_ | refine ZK tm no_specs rfl (by conv => lhs; simp [w1, w2, w3, w4, h1, h2]) fun _ => ?_ | refine ZL tm no_specs rfl (by conv => lhs; simp [w1, w2, w3, w4, h1, h2]) fun _ => ?_)
      simp only [h1, h2, Bool.true_and, Bool.false_and, Bool.and_false]
      first | exact Ret.dataR rfl (by conv => lhs; simp) (by conv => lhs; simp) (by first | rfl | simp [inlT, inlV]) | fail "no return here"
    | true =>
      cases h3 : (z0 == 0 && (z1 == 0 && (z2 == 0 && (z3 == 0 && (z4 == 0 && (z5 == 0 && (z6 == 0 && (z7 == 0 && z8 == 0)))))))) with
      | false =>
        repeat (first | refine ZS ?_ | refine ZK tm no_specs rfl (by conv => lhs; simp [w1, w2, w3, w4, h1, h2, h3]) fun _ => ?_ | refine ZL tm no_specs rfl (by conv => lhs; simp [w1, w2, w3, w4, h1, h2, h3]) fun _ => ?_)
        simp only [h1, h2, h3, Bool.true_and, Bool.false_and, Bool.and_false]
        first | exact Ret.dataR rfl (by conv => lhs; simp) (by conv => lhs; simp) (by first | rfl | simp [inlT, inlV]) | fail "no return here"
      | true =>
        cases h4 : (p7 == 0) with
        | false =>
          repeat (first | refine ZS ?_ | refine ZK tm no_specs rfl (by conv => lhs; simp [w1, w2, w3, w4, h1, h2, h3, h4]) fun _ => ?_ | refine ZL tm no_specs rfl (by conv => lhs; simp [w1, w2, w3, w4, h1, h2, h3, h4]) fun _ => ?_)
          simp only [h1, h2, h3, h4, Bool.true_and, Bool.false_and, Bool.and_false]
          first | exact Ret.dataR rfl (by conv => lhs; simp) (by conv => lhs; simp) (by first | rfl | simp [inlT, inlV]) | fail "no return here"
        | true =>
          repeat (first | refine ZS ?_ | refine ZK tm no_specs rfl (by conv => lhs; simp [w1, w2, w3, w4, h1, h2, h3, h4]) fun _ => ?_ | refine ZL tm no_specs rfl (by conv => lhs; simp [w1, w2, w3, w4, h1, h2, h3, h4]) fun _ => ?_)
          simp only [h1, h2, h3, h4, Bool.true_and, Bool.and_true]
          first | exact Ret.dataR rfl (by conv => lhs; simp) (by conv => lhs; simp) (by first | rfl | simp [inlT, inlV]) | fail "no return here"
def noneZ : List AV → Bool
  | [.int .i64 p0, .int .u64 p1, .list 1 p2, .list 4 q0, .list 1 q1, .int .i64 q2, .int .i64 z0, .int .i64 z1, .int .i64 z2, .int .i64 z3, .int .i64 z4, .int .i64 z5, .int .i64 z6, .int .i64 z7, .int .i64 z8, .list 2 p5, .list 4 p6, .int .i64 p7, .int .i64 p8, .int .i64 p9] => (p0 == 0) && ((p1 == 0) && ((p9 == 0) && restZ [.int .i64 p0, .int .u64 p1, .list 1 p2, .list 4 q0, .list 1 q1, .int .i64 q2, .int .i64 z0, .int .i64 z1, .int .i64 z2, .int .i64 z3, .int .i64 z4, .int .i64 z5, .int .i64 z6, .int .i64 z7, .int .i64 z8, .list 2 p5, .list 4 p6, .int .i64 p7, .int .i64 p8, .int .i64 p9]))
  | _ => false
noncomputable def nnS : SpecFn := mkS (fun d : Prc => [.agg d.cells]) fun d => (.bool (noneZ d.cells), [])
theorem nnS_eq (d : Prc) : nnS [.agg d.cells] [] = some (.bool (noneZ d.cells), []) := mkS_eq (enc := fun d : Prc => [AV.agg d.cells]) tdInj d
noncomputable def nn_specs : NL Spec := [(239, ⟨1, rsS⟩)]
theorem nn_specs_ok : ∀ p ∈ nn_specs, FnC Try.prog p.1 p.2.fn := by
  simp only [nn_specs, List.mem_cons, List.not_mem_nil, or_false]
  rintro p rfl
  exact rs_ok
attribute [local simp] nn_specs
theorem nn_ok : FnC Try.prog 230 nnS := by
  refine FnC.walk 230 (fn := Try.f230) Try.func230 rfl (by kernel_rfl) fun d => ?_
  obtain ⟨cs, ty, bd⟩ := d
  have hR := rsS_eq ⟨cs, ty, bd⟩
  obtain ⟨p0, p1, p2, p3, p4, p5, p6, p7, p8, p9, rfl, -, -, -, h3, h4, -, -, -, -, -⟩ := viewProcess ty
  obtain ⟨q0, q1, q2, rfl, -, -, -⟩ := viewProgram h3
  obtain ⟨z0, z1, z2, z3, z4, z5, z6, z7, z8, rfl, -⟩ := viewCPU h4
  simp only [List.cons_append, List.nil_append] at hR
  change W _ (Ret _ _ (.bool ((p0 == 0) && ((p1 == 0) && ((p9 == 0) && restZ [.int .i64 p0, .int .u64 p1, .list 1 p2, .list 4 q0, .list 1 q1, .int .i64 q2, .int .i64 z0, .int .i64 z1, .int .i64 z2, .int .i64 z3, .int .i64 z4, .int .i64 z5, .int .i64 z6, .int .i64 z7, .int .i64 z8, .list 2 p5, .list 4 p6, .int .i64 p7, .int .i64 p8, .int .i64 p9])))) []) _ _ ⟨20, [(0, .agg [.int .i64 p0, .int .u64 p1, .list 1 p2, .list 4 q0, .list 1 q1, .int .i64 q2, .int .i64 z0, .int .i64 z1, .int .i64 z2, .int .i64 z3, .int .i64 z4, .int .i64 z5, .int .i64 z6, .int .i64 z7, .int .i64 z8, .list 2 p5, .list 4 p6, .int .i64 p7, .int .i64 p8, .int .i64 p9])], []⟩
  clear h3 h4
  generalize restZ [.int .i64 p0, .int .u64 p1, .list 1 p2, .list 4 q0, .list 1 q1, .int .i64 q2, .int .i64 z0, .int .i64 z1, .int .i64 z2, .int .i64 z3, .int .i64 z4, .int .i64 z5, .int .i64 z6, .int .i64 z7, .int .i64 z8, .list 2 p5, .list 4 p6, .int .i64 p7, .int .i64 p8, .int .i64 p9] = rz at *
  cases h1 : (p0 == 0) with
  | false =>
    repeat (first | refine ZS ?_ | refine ZK tm nn_specs_ok rfl (by conv => lhs; simp [hR, h1]) fun _ => ?_ | refine ZL tm nn_specs_ok rfl (by conv => lhs; simp [hR, h1]) fun _ => ?_)
    simp only [h1, Bool.true_and, Bool.false_and, Bool.and_false]
    first | exact Ret.dataR rfl (by conv => lhs; simp) (by conv => lhs; simp) (by first | rfl | simp [inlT, inlV]) | fail "no return here"
  | true =>
    cases h2 : (p1 == 0) with
    | false =>
      repeat (first | refine ZS ?_ | refine ZK tm nn_specs_ok rfl (by conv => lhs; simp [hR, h1, h2]) fun _ => ?_ | refine ZL tm nn_specs_ok rfl (by conv => lhs; simp [hR, h1, h2]) fun _ => ?_)
      simp only [h1, h2, Bool.true_and, Bool.false_and, Bool.and_false]
      first | exact Ret.dataR rfl (by conv => lhs; simp) (by conv => lhs; simp) (by first | rfl | simp [inlT, inlV]) | fail "no return here"
    | true =>
      cases h3 : (p9 == 0) with
      | false =>
        repeat (first | refine ZS ?_ | refine ZK tm nn_specs_ok rfl (by conv => lhs; simp [hR, h1, h2, h3]) fun _ => ?_ | refine ZL tm nn_specs_ok rfl (by conv => lhs; simp [hR, h1, h2, h3]) fun _ => ?_)
        simp only [h1, h2, h3, Bool.true_and, Bool.false_and, Bool.and_false]
        first | exact Ret.dataR rfl (by conv => lhs; simp) (by conv => lhs; simp) (by first | rfl | simp [inlT, inlV]) | fail "no return here"
      | true =>
        repeat (first | refine ZS ?_ | refine ZK tm nn_specs_ok rfl (by conv => lhs; simp [hR, h1, h2, h3]) fun _ => ?_ | refine ZL tm nn_specs_ok rfl (by conv => lhs; simp [hR, h1, h2, h3]) fun _ => ?_)
        simp only [h1, h2, h3, Bool.true_and, Bool.and_true]
        first | exact Ret.dataR rfl (by conv => lhs; simp) (by conv => lhs; simp) (by first | rfl | simp [inlT, inlV]) | fail "no return here"
def blankZ : List AV → Bool
  | [.int .i64 p0, .int .u64 p1, .list 1 p2, .list 4 q0, .list 1 q1, .int .i64 q2, .int .i64 z0, .int .i64 z1, .int .i64 z2, .int .i64 z3, .int .i64 z4, .int .i64 z5, .int .i64 z6, .int .i64 z7, .int .i64 z8, .list 2 p5, .list 4 p6, .int .i64 p7, .int .i64 p8, .int .i64 p9] => (p0 == 0) && ((p1 == 0) && (((p2.length : Int) == 0) && (((q0.length : Int) == 0) && (((q1.length : Int) == 0) && ((q2 == 0) && (cpuZ z0 z1 z2 z3 z4 z5 z6 z7 z8 && (((p5.length : Int) == 0) && (((p6.length : Int) == 0) && ((p7 == 0) && ((p8 == 0) && (p9 == 0)))))))))))
  | _ => false
theorem blankZ_eq {cs : List AV} (ty : TyR Try.prog 8 42 cs) : blankZ cs = noneZ cs := by
  obtain ⟨p0, p1, p2, p3, p4, p5, p6, p7, p8, p9, rfl, -, -, -, h3, h4, -, -, -, -, -⟩ := viewProcess ty
  obtain ⟨q0, q1, q2, rfl, -, -, -⟩ := viewProgram h3
  obtain ⟨z0, z1, z2, z3, z4, z5, z6, z7, z8, rfl, -⟩ := viewCPU h4
  simp only [List.cons_append, List.nil_append, blankZ, noneZ, restZ]
  rw [Bool.eq_iff_iff]
  simp only [Bool.and_eq_true, beq_iff_eq]
  constructor
  · rintro ⟨a1, a2, a3, a4, a5, a6, a7, a8, a9, a10, a11, a12⟩
    exact ⟨a1, a2, a12, by omega, a6, a7, a10, a11⟩
  · rintro ⟨a1, a2, a12, a3, a6, a7, a10, a11⟩
    exact ⟨a1, a2, by omega, by omega, by omega, a6, a7, by omega, by omega, a10, a11, a12⟩
theorem bl_ok : FnC Try.prog 208 nnS := by
  refine FnC.walk 208 (fn := Try.f208) Try.func208 rfl (by kernel_rfl) fun d => ?_
  obtain ⟨cs, ty, bd⟩ := d
  dsimp only
  rw [← blankZ_eq ty]
  obtain ⟨p0, p1, p2, p3, p4, p5, p6, p7, p8, p9, rfl, -, -, -, h3, h4, -, -, -, -, -⟩ := viewProcess ty
  obtain ⟨q0, q1, q2, rfl, -, -, -⟩ := viewProgram h3
  obtain ⟨z0, z1, z2, z3, z4, z5, z6, z7, z8, rfl, -⟩ := viewCPU h4
  change W _ (Ret _ _ (.bool ((p0 == 0) && ((p1 == 0) && (((p2.length : Int) == 0) && (((q0.length : Int) == 0) && (((q1.length : Int) == 0) && ((q2 == 0) && (cpuZ z0 z1 z2 z3 z4 z5 z6 z7 z8 && (((p5.length : Int) == 0) && (((p6.length : Int) == 0) && ((p7 == 0) && ((p8 == 0) && (p9 == 0))))))))))))) []) _ _ ⟨70, [(0, .agg [.int .i64 p0, .int .u64 p1, .list 1 p2, .list 4 q0, .list 1 q1, .int .i64 q2, .int .i64 z0, .int .i64 z1, .int .i64 z2, .int .i64 z3, .int .i64 z4, .int .i64 z5, .int .i64 z6, .int .i64 z7, .int .i64 z8, .list 2 p5, .list 4 p6, .int .i64 p7, .int .i64 p8, .int .i64 p9])], []⟩
  unfold cpuZ
  cases h1 : (p0 == 0) with
  | false =>
    repeat (first | refine ZS ?_ | refine ZK tm no_specs rfl (by conv => lhs; simp [h1]) fun _ => ?_ | refine ZL tm no_specs rfl (by conv => lhs; simp [h1]) fun _ => ?_)
    simp only [h1, Bool.true_and, Bool.false_and, Bool.and_false]
    first | exact Ret.dataR rfl (by conv => lhs; simp) (by conv => lhs; simp) (by first | rfl | simp [inlT, inlV]) | fail "no return here"
  | true =>
    cases h2 : (p1 == 0) with
    | false =>
      repeat (first | refine ZS ?_ | refine ZK tm no_specs rfl (by conv => lhs; simp [h1, h2]) fun _ => ?_ | refine ZL tm no_specs rfl (by conv => lhs; simp [h1, h2]) fun _ => ?_)
      simp only [h1, h2, Bool.true_and, Bool.false_and, Bool.and_false]
      first | exact Ret.dataR rfl (by conv => lhs; simp) (by conv => lhs; simp) (by first | rfl | simp [inlT, inlV]) | fail "no return here"
    | true =>
      cases h3 : ((p2.length : Int) == 0) with
      | false =>
        repeat (first | refine ZS ?_ | refine ZK tm no_specs rfl (by conv => lhs; simp [h1, h2, h3]) fun _ => ?_ | refine ZL tm no_specs rfl (by conv => lhs; simp [h1, h2, h3]) fun _ => ?_)
        simp only [h1, h2, h3, Bool.true_and, Bool.false_and, Bool.and_false]
        first | exact Ret.dataR rfl (by conv => lhs; simp) (by conv => lhs; simp) (by first | rfl | simp [inlT, inlV]) | fail "no return here"
      | true =>
        cases h4 : ((q0.length : Int) == 0) with
        | false =>
          repeat (first | refine ZS ?_ | refine ZK tm no_specs rfl (by conv => lhs; simp [h1, h2, h3, h4]) fun _ => ?_ | refine ZL tm no_specs rfl (by conv => lhs; simp [h1, h2, h3, h4]) fun _ => ?_)
          simp only [h1, h2, h3, h4, Bool.true_and, Bool.false_and, Bool.and_false]
          first | exact Ret.dataR rfl (by conv => lhs; simp) (by conv => lhs; simp) (by first | rfl | simp [inlT, inlV]) | fail "no return here"
        | true =>
          cases h5 : ((q1.length : Int) == 0) with
          | false =>
            repeat (first | refine ZS ?_ | refine ZK tm no_specs rfl (by conv => lhs; simp [h1, h2, h3, h4, h5]) fun _ => ?_ | refine ZL tm no_specs rfl (by conv => lhs; simp [h1, h2, h3, h4, h5]) fun _ => ?_)
            simp only [h1, h2, h3, h4, h5, Bool.true_and, Bool.false_and, Bool.and_false]
            first | exact Ret.dataR rfl (by conv => lhs; simp) (by conv => lhs; simp) (by first | rfl | simp [inlT, inlV]) | fail "no return here"
          | true =>
            cases h6 : (q2 == 0) with
            | false =>
              repeat (first | refine ZS ?_ | refine ZK tm no_specs rfl (by conv => lhs; simp [h1, h2, h3, h4, h5, h6]) fun _ => ?_ | refine ZL tm no_specs rfl (by conv => lhs; simp [h1, h2, h3, h4, h5, h6]) fun _ => ?_)
              simp only [h1, h2, h3, h4, h5, h6, Bool.true_and, Bool.false_and, Bool.and_false]
              first | exact Ret.dataR rfl (by conv => lhs; simp) (by conv => lhs; simp) (by first | rfl | simp [inlT, inlV]) | fail "no return here"
            | true =>
              cases h7 : (z0 == 0 && (z1 == 0 && (z2 == 0 && (z3 == 0 && (z4 == 0 && (z5 == 0 && (z6 == 0 && (z7 == 0 && z8 == 0)))))))) with
              | false =>
                repeat (first | refine ZS ?_ | refine ZK tm no_specs rfl (by conv => lhs; simp [h1, h2, h3, h4, h5, h6, h7]) fun _ => ?_ | refine ZL tm no_specs rfl (by conv => lhs; simp [h1, h2, h3, h4, h5, h6, h7]) fun _ => ?_)
                simp only [h1, h2, h3, h4, h5, h6, h7, Bool.true_and, Bool.false_and, Bool.and_false]
                first | exact Ret.dataR rfl (by conv => lhs; simp) (by conv => lhs; simp) (by first | rfl | simp [inlT, inlV]) | fail "no return here"
              | true =>
                cases h8 : ((p5.length : Int) == 0) with
                | false =>
                  repeat (first | refine ZS ?_ | refine ZK tm no_specs rfl (by conv => lhs; simp [h1, h2, h3, h4, h5, h6, h7, h8]) fun _ => ?_ | refine ZL tm no_specs rfl (by conv => lhs; simp [h1, h2, h3, h4, h5, h6, h7, h8]) fun _ => ?_)
                  simp only [h1, h2, h3, h4, h5, h6, h7, h8, Bool.true_and, Bool.false_and, Bool.and_false]
                  first | exact Ret.dataR rfl (by conv => lhs; simp) (by conv => lhs; simp) (by first | rfl | simp [inlT, inlV]) | fail "no return here"
                | true =>
                  cases h9 : ((p6.length : Int) == 0) with
                  | false =>
                    repeat (first | refine ZS ?_ | refine ZK tm no_specs rfl (by conv => lhs; simp [h1, h2, h3, h4, h5, h6, h7, h8, h9]) fun _ => ?_ | refine ZL tm no_specs rfl (by conv => lhs; simp [h1, h2, h3, h4, h5, h6, h7, h8, h9]) fun _ => ?_)
                    simp only [h1, h2, h3, h4, h5, h6, h7, h8, h9, Bool.true_and, Bool.false_and, Bool.and_false]
                    first | exact Ret.dataR rfl (by conv => lhs; simp) (by conv => lhs; simp) (by first | rfl | simp [inlT, inlV]) | fail "no return here"
                  | true =>
                    cases h10 : (p7 == 0) with
                    | false =>
                      repeat (first | refine ZS ?_ | refine ZK tm no_specs rfl (by conv => lhs; simp [h1, h2, h3, h4, h5, h6, h7, h8, h9, h10]) fun _ => ?_ | refine ZL tm no_specs rfl (by conv => lhs; simp [h1, h2, h3, h4, h5, h6, h7, h8, h9, h10]) fun _ => ?_)
                      simp only [h1, h2, h3, h4, h5, h6, h7, h8, h9, h10, Bool.true_and, Bool.false_and, Bool.and_false]
                      first | exact Ret.dataR rfl (by conv => lhs; simp) (by conv => lhs; simp) (by first | rfl | simp [inlT, inlV]) | fail "no return here"
                    | true =>
                      cases h11 : (p8 == 0) with
                      | false =>
                        repeat (first | refine ZS ?_ | refine ZK tm no_specs rfl (by conv => lhs; simp [h1, h2, h3, h4, h5, h6, h7, h8, h9, h10, h11]) fun _ => ?_ | refine ZL tm no_specs rfl (by conv => lhs; simp [h1, h2, h3, h4, h5, h6, h7, h8, h9, h10, h11]) fun _ => ?_)
                        simp only [h1, h2, h3, h4, h5, h6, h7, h8, h9, h10, h11, Bool.true_and, Bool.false_and, Bool.and_false]
                        first | exact Ret.dataR rfl (by conv => lhs; simp) (by conv => lhs; simp) (by first | rfl | simp [inlT, inlV]) | fail "no return here"
                      | true =>
                        repeat (first | refine ZS ?_ | refine ZK tm no_specs rfl (by conv => lhs; simp [h1, h2, h3, h4, h5, h6, h7, h8, h9, h10, h11]) fun _ => ?_ | refine ZL tm no_specs rfl (by conv => lhs; simp [h1, h2, h3, h4, h5, h6, h7, h8, h9, h10, h11]) fun _ => ?_)
                        simp only [h1, h2, h3, h4, h5, h6, h7, h8, h9, h10, h11, Bool.true_and, Bool.and_true]
                        first | exact Ret.dataR rfl (by conv => lhs; simp) (by conv => lhs; simp) (by first | rfl | simp [inlT, inlV]) | fail "no return here"
end Go.Abs.Na
namespace Go.Abs.Na
open Go Go.Proofs Go.Abs
set_option maxRecDepth 100000
set_option maxHeartbeats 4000000
set_option linter.unusedSimpArgs false
set_option linter.unusedVariables false
/-! ### Marks -/
def mk (b : Bool) (f s : Int) : Int := if b = true then IntKind.i64.wrap (((s % 2 ^ IntKind.i64.bits).toNat ||| (f % 2 ^ IntKind.i64.bits).toNat : Nat) : Int) else s
def iB (n : Int) : ABlk := { gen := 0, kind := 2, elem := 3, size := 1, inl := false, rows := [[.int .i64 n]] }
def encMk (x : Int × Bool × Int) : List AV × List ABlk := ([.int .i64 x.1, .bool x.2.1, .ptr 0 0 0 0], [iB x.2.2])
theorem encMk_inj {β : Type} {f : Int × Bool × Int → β} : ∀ x y, encMk x = encMk y → f x = f y := fun x y h => by
  obtain ⟨a, b, c⟩ := x
  obtain ⟨a', b', c'⟩ := y
  simp only [encMk, iB, Prod.mk.injEq, List.cons.injEq, AV.int.injEq, AV.bool.injEq, ABlk.mk.injEq, true_and, and_true] at h
  obtain ⟨⟨rfl, rfl⟩, rfl⟩ := h
  rfl
noncomputable def mkkS : SpecFn := mkS2 encMk fun x => (.tup [], [iB (mk x.2.1 x.1 x.2.2)])
theorem mkkS_eq (f s : Int) (b : Bool) : mkkS [.int .i64 f, .bool b, .ptr 0 0 0 0] [{ gen := 0, kind := 2, elem := 3, size := 1, inl := false, rows := [[.int .i64 s]] }] = some (.tup [], [{ gen := 0, kind := 2, elem := 3, size := 1, inl := false, rows := [[.int .i64 (mk b f s)]] }]) := mkS2_eq (enc := encMk) encMk_inj (f, b, s)
attribute [local simp] instA
theorem mkk_ok : FnC Try.prog 229 mkkS := by
  refine FnC.walkB 229 (fn := Try.f229) Try.func229 rfl (by kernel_rfl) (fun x b hb => by simp [encMk] at hb; rw [hb]; rfl) fun x => ?_
  obtain ⟨f, b, s⟩ := x
  change W _ (RetB _ _ 1 (.tup []) [iB (mk b f s)]) _ _ ⟨9, [(0, .int .i64 f), (1, .bool b), (2, .ptr 0 0 0 0)], [(0, iB s)]⟩
  cases b with
  | false =>
    repeat (first | refine ZS ?_ | refine ZK tm no_specs rfl (by conv => lhs; simp [iB]) fun _ => ?_ | refine ZL tm no_specs rfl (by conv => lhs; simp [iB]) fun _ => ?_)
    simp only [mk, Bool.false_eq_true, if_false, iB]
    first | exact retE2_ok false (by conv => lhs; simp [retE2, frqT, frqV, frqVs, frqL, frq1, reachE, blkRefs, outE, nodupE, firstE, seqO, expB2, expF, refsB, refsL, AV.refs, AV.ren, renL, renB, List.range, List.range.loop, resVs, resV, pack]) | fail "no return here"
  | true =>
    repeat (first | refine ZS ?_ | refine ZK tm no_specs rfl (by conv => lhs; simp [iB]) fun _ => ?_ | refine ZL tm no_specs rfl (by conv => lhs; simp [iB]) fun _ => ?_)
    simp only [mk, if_true, iB]
    first | exact retE2_ok false (by conv => lhs; simp [retE2, frqT, frqV, frqVs, frqL, frq1, reachE, blkRefs, outE, nodupE, firstE, seqO, expB2, expF, refsB, refsL, AV.refs, AV.ren, renL, renB, List.range, List.range.loop, resVs, resV, pack]) | fail "no return here"
theorem mk_pos {b : Bool} {f s : Int} (h0 : 0 ≤ s) (h1 : s < 4611686018427387904) (f0 : 0 < f) (f1 : f < 4611686018427387904) : 0 ≤ mk b f s ∧ mk b f s < 4611686018427387904 ∧ (mk b f s = 0 ↔ b = false ∧ s = 0) := by
  cases b with
  | false => simp [mk]; omega
  | true =>
    obtain ⟨n, rfl⟩ := Int.eq_ofNat_of_zero_le h0
    obtain ⟨m, rfl⟩ := Int.eq_ofNat_of_zero_le (Int.le_of_lt f0)
    have eb : (2 : Int) ^ IntKind.i64.bits = 18446744073709551616 := by decide
    have e1 : ((n : Int) % 2 ^ IntKind.i64.bits).toNat = n := by rw [eb]; omega
    have e2 : ((m : Int) % 2 ^ IntKind.i64.bits).toNat = m := by rw [eb]; omega
    have e4 : n ||| m < 2 ^ 62 := Nat.or_lt_two_pow (by omega) (by omega)
    have e5 : n ||| m ≠ 0 := fun h => by
      have := (Nat.or_eq_zero_iff.1 h).2
      omega
    simp only [mk, if_true, e1, e2]
    rw [w64 (by omega) (by omega)]
    refine ⟨by omega, by omega, ?_⟩
    simp
    omega
theorem fin_zero {s : Int} (h0 : 0 ≤ s) (h1 : s < 4611686018427387904) : IntKind.i64.wrap (max (s % 2 ^ IntKind.i64.bits) 0) = s := by
  have eb : (2 : Int) ^ IntKind.i64.bits = 18446744073709551616 := by decide
  rw [eb, show max (s % 18446744073709551616) 0 = s by omega]
  exact w64 (by omega) (by omega)
theorem marks (b1 b2 b3 b4 b5 b6 b7 b8 b9 b10 b11 b12 b13 : Bool) :
    0 ≤ mk b13 4096 (mk b12 2048 (mk b11 1024 (mk b10 512 (mk b9 256 (mk b8 128 (mk b7 64 (mk b6 32 (mk b5 16 (mk b4 8 (mk b3 4 (mk b2 2 (mk b1 1 0)))))))))))) ∧ mk b13 4096 (mk b12 2048 (mk b11 1024 (mk b10 512 (mk b9 256 (mk b8 128 (mk b7 64 (mk b6 32 (mk b5 16 (mk b4 8 (mk b3 4 (mk b2 2 (mk b1 1 0)))))))))))) < 4611686018427387904 ∧
    (mk b13 4096 (mk b12 2048 (mk b11 1024 (mk b10 512 (mk b9 256 (mk b8 128 (mk b7 64 (mk b6 32 (mk b5 16 (mk b4 8 (mk b3 4 (mk b2 2 (mk b1 1 0)))))))))))) = 0 ↔ b1 = false ∧ b2 = false ∧ b3 = false ∧ b4 = false ∧ b5 = false ∧ b6 = false ∧ b7 = false ∧ b8 = false ∧ b9 = false ∧ b10 = false ∧ b11 = false ∧ b12 = false ∧ b13 = false) := by
  obtain ⟨h1, h2, h3⟩ := mk_pos (b := b1) (f := 1) (s := 0) (by omega) (by omega) (by omega) (by omega)
  obtain ⟨i1, i2, i3⟩ := mk_pos (b := b2) (f := 2) h1 h2 (by omega) (by omega)
  obtain ⟨j1, j2, j3⟩ := mk_pos (b := b3) (f := 4) i1 i2 (by omega) (by omega)
  obtain ⟨k1, k2, k3⟩ := mk_pos (b := b4) (f := 8) j1 j2 (by omega) (by omega)
  obtain ⟨l1, l2, l3⟩ := mk_pos (b := b5) (f := 16) k1 k2 (by omega) (by omega)
  obtain ⟨m1, m2, m3⟩ := mk_pos (b := b6) (f := 32) l1 l2 (by omega) (by omega)
  obtain ⟨n1, n2, n3⟩ := mk_pos (b := b7) (f := 64) m1 m2 (by omega) (by omega)
  obtain ⟨o1, o2, o3⟩ := mk_pos (b := b8) (f := 128) n1 n2 (by omega) (by omega)
  obtain ⟨p1, p2, p3⟩ := mk_pos (b := b9) (f := 256) o1 o2 (by omega) (by omega)
  obtain ⟨q1, q2, q3⟩ := mk_pos (b := b10) (f := 512) p1 p2 (by omega) (by omega)
  obtain ⟨r1, r2, r3⟩ := mk_pos (b := b11) (f := 1024) q1 q2 (by omega) (by omega)
  obtain ⟨s1, s2, s3⟩ := mk_pos (b := b12) (f := 2048) r1 r2 (by omega) (by omega)
  obtain ⟨t1, t2, t3⟩ := mk_pos (b := b13) (f := 4096) s1 s2 (by omega) (by omega)
  refine ⟨t1, t2, ?_⟩
  rw [t3, s3, r3, q3, p3, o3, n3, m3, l3, k3, j3, i3, h3]
  constructor
  · rintro ⟨a, b, c, d, e, f, g, h, i, j, k, l, m, -⟩
    exact ⟨m, l, k, j, i, h, g, f, e, d, c, b, a⟩
  · rintro ⟨m, l, k, j, i, h, g, f, e, d, c, b, a⟩
    exact ⟨a, b, c, d, e, f, g, h, i, j, k, l, m, rfl⟩
/-! ### Objects -/
noncomputable def on_specs : NL Spec := [(230, ⟨1, nnS⟩), (229, ⟨3, mkkS⟩)]
theorem on_specs_ok : ∀ p ∈ on_specs, FnC Try.prog p.1 p.2.fn := by
  simp only [on_specs, List.mem_cons, List.not_mem_nil, or_false]
  rintro p (rfl | rfl)
  · exact nn_ok
  · exact mkk_ok
attribute [local simp] instA eqlA tgC tgE eqCpu eqEnds on_specs
/-- All cells of an object but the first two are zero. -/
def bareZ : List AV → Bool
  | .int .u64 x0 :: .int .i64 x1 :: .int .i64 x2 :: .int .i64 p0 :: .int .u64 p1 :: .list 1 p2 :: .list 4 q0 :: .list 1 q1 :: .int .i64 q2 :: .int .i64 z0 :: .int .i64 z1 :: .int .i64 z2 :: .int .i64 z3 :: .int .i64 z4 :: .int .i64 z5 :: .int .i64 z6 :: .int .i64 z7 :: .int .i64 z8 :: .list 2 p5 :: .list 4 p6 :: .int .i64 p7 :: .int .i64 p8 :: .int .i64 p9 :: .list 1 x4 :: .list 1 x5 :: .int .i64 x6 :: .int .u64 x7 :: .int .i64 x8 :: .int .i64 x9 :: .list 1 x10 :: .list 1 x11 :: .list 1 x12 :: .int .i64 x13 :: .int .i64 x14 :: .int .i64 x15 :: .list 3 x16 :: [] => (x2 == 0) && (((x4.length : Int) == 0) && (((x5.length : Int) == 0) && ((x6 == 0) && ((x7 == 0) && ((x8 == 0) && ((x9 == 0) && (((x10.length : Int) == 0) && (((x11.length : Int) == 0) && (((x12.length : Int) == 0) && ((x13 == 0 && x14 == 0) && ((x15 == 0) && (((x16.length : Int) == 0) && noneZ [.int .i64 p0, .int .u64 p1, .list 1 p2, .list 4 q0, .list 1 q1, .int .i64 q2, .int .i64 z0, .int .i64 z1, .int .i64 z2, .int .i64 z3, .int .i64 z4, .int .i64 z5, .int .i64 z6, .int .i64 z7, .int .i64 z8, .list 2 p5, .list 4 p6, .int .i64 p7, .int .i64 p8, .int .i64 p9]))))))))))))
  | _ => false
theorem obView (d : Ob) : ∃ p0 p1 p2 q0 q1 q2 z0 z1 z2 z3 z4 z5 z6 z7 z8 p5 p6 p7 p8 p9 x0 x1 x2 x4 x5 x6 x7 x8 x9 x10 x11 x12 x13 x14 x15 x16, d.cells = [.int .u64 x0, .int .i64 x1, .int .i64 x2, .int .i64 p0, .int .u64 p1, .list 1 p2, .list 4 q0, .list 1 q1, .int .i64 q2, .int .i64 z0, .int .i64 z1, .int .i64 z2, .int .i64 z3, .int .i64 z4, .int .i64 z5, .int .i64 z6, .int .i64 z7, .int .i64 z8, .list 2 p5, .list 4 p6, .int .i64 p7, .int .i64 p8, .int .i64 p9, .list 1 x4, .list 1 x5, .int .i64 x6, .int .u64 x7, .int .i64 x8, .int .i64 x9, .list 1 x10, .list 1 x11, .list 1 x12, .int .i64 x13, .int .i64 x14, .int .i64 x15, .list 3 x16] ∧ TyR Try.prog 8 42 [.int .i64 p0, .int .u64 p1, .list 1 p2, .list 4 q0, .list 1 q1, .int .i64 q2, .int .i64 z0, .int .i64 z1, .int .i64 z2, .int .i64 z3, .int .i64 z4, .int .i64 z5, .int .i64 z6, .int .i64 z7, .int .i64 z8, .list 2 p5, .list 4 p6, .int .i64 p7, .int .i64 p8, .int .i64 p9] ∧ bdL 10000 [.int .i64 p0, .int .u64 p1, .list 1 p2, .list 4 q0, .list 1 q1, .int .i64 q2, .int .i64 z0, .int .i64 z1, .int .i64 z2, .int .i64 z3, .int .i64 z4, .int .i64 z5, .int .i64 z6, .int .i64 z7, .int .i64 z8, .list 2 p5, .list 4 p6, .int .i64 p7, .int .i64 p8, .int .i64 p9] = true ∧ (x4.length ≤ 10000 ∧ x5.length ≤ 10000 ∧ x10.length ≤ 10000 ∧ x11.length ≤ 10000 ∧ x12.length ≤ 10000 ∧ x16.length ≤ 10000) := by
  obtain ⟨cs, ty, bd⟩ := d
  obtain ⟨x0, x1, x2, xp, x4, x5, x6, x7, x8, x9, x10, x11, x12, x13, x14, x15, x16, rfl, -, -, -, hp, -⟩ := viewObject ty
  simp only [bdL, bdV, bdL_append, Bool.and_eq_true, Bool.true_and, true_and, decide_eq_true_eq] at bd
  have bp := bd.1
  have hp' := hp
  obtain ⟨p0, p1, p2, p3, p4, p5, p6, p7, p8, p9, rfl, -, -, -, h3, h4, -⟩ := viewProcess hp
  obtain ⟨q0, q1, q2, rfl, -, -, -⟩ := viewProgram h3
  obtain ⟨z0, z1, z2, z3, z4, z5, z6, z7, z8, rfl, -⟩ := viewCPU h4
  exact ⟨p0, p1, p2, q0, q1, q2, z0, z1, z2, z3, z4, z5, z6, z7, z8, p5, p6, p7, p8, p9, x0, x1, x2, x4, x5, x6, x7, x8, x9, x10, x11, x12, x13, x14, x15, x16, rfl, hp', bp, bd.2.1.1, bd.2.2.1.1, by simp [bd], by simp [bd], by simp [bd], by simp [bd]⟩
noncomputable def onS : SpecFn := mkS (fun d : Ob => [.agg d.cells, .int .i64 0]) fun d => (.bool (bareZ d.cells), [])
theorem onS_eq (d : Ob) : onS [.agg d.cells, .int .i64 0] [] = some (.bool (bareZ d.cells), []) := mkS_eq (enc := fun d : Ob => [AV.agg d.cells, .int .i64 0]) (fun x y h => by
  simp only [List.cons.injEq, AV.agg.injEq, and_true] at h
  rw [Td.ext h]) d
theorem on_ok : FnC Try.prog 207 onS := by
  refine FnC.walk 207 (fn := Try.f207) Try.func207 rfl (by kernel_rfl) fun d => ?_
  dsimp only
  obtain ⟨p0, p1, p2, q0, q1, q2, z0, z1, z2, z3, z4, z5, z6, z7, z8, p5, p6, p7, p8, p9, x0, x1, x2, x4, x5, x6, x7, x8, x9, x10, x11, x12, x13, x14, x15, x16, hd, hp, bp, hb⟩ := obView d
  rw [hd]
  have hN := nnS_eq ⟨_, hp, bp⟩
  dsimp only at hN
  clear hd d hp bp
  change W _ (Ret _ _ (.bool (bareZ [.int .u64 x0, .int .i64 x1, .int .i64 x2, .int .i64 p0, .int .u64 p1, .list 1 p2, .list 4 q0, .list 1 q1, .int .i64 q2, .int .i64 z0, .int .i64 z1, .int .i64 z2, .int .i64 z3, .int .i64 z4, .int .i64 z5, .int .i64 z6, .int .i64 z7, .int .i64 z8, .list 2 p5, .list 4 p6, .int .i64 p7, .int .i64 p8, .int .i64 p9, .list 1 x4, .list 1 x5, .int .i64 x6, .int .u64 x7, .int .i64 x8, .int .i64 x9, .list 1 x10, .list 1 x11, .list 1 x12, .int .i64 x13, .int .i64 x14, .int .i64 x15, .list 3 x16])) []) _ _ ⟨90, [(0, .agg [.int .u64 x0, .int .i64 x1, .int .i64 x2, .int .i64 p0, .int .u64 p1, .list 1 p2, .list 4 q0, .list 1 q1, .int .i64 q2, .int .i64 z0, .int .i64 z1, .int .i64 z2, .int .i64 z3, .int .i64 z4, .int .i64 z5, .int .i64 z6, .int .i64 z7, .int .i64 z8, .list 2 p5, .list 4 p6, .int .i64 p7, .int .i64 p8, .int .i64 p9, .list 1 x4, .list 1 x5, .int .i64 x6, .int .u64 x7, .int .i64 x8, .int .i64 x9, .list 1 x10, .list 1 x11, .list 1 x12, .int .i64 x13, .int .i64 x14, .int .i64 x15, .list 3 x16]), (1, .int .i64 0)], []⟩
  dsimp only
  have w1 : IntKind.i64.wrap ((x11.length : Int) + x12.length) = (x11.length : Int) + x12.length := w64 (by omega) (by omega)
  obtain ⟨m1, m2, m3⟩ := marks (x2 != 0) (!noneZ [.int .i64 p0, .int .u64 p1, .list 1 p2, .list 4 q0, .list 1 q1, .int .i64 q2, .int .i64 z0, .int .i64 z1, .int .i64 z2, .int .i64 z3, .int .i64 z4, .int .i64 z5, .int .i64 z6, .int .i64 z7, .int .i64 z8, .list 2 p5, .list 4 p6, .int .i64 p7, .int .i64 p8, .int .i64 p9]) (decide (0 < x4.length)) (decide (0 < x5.length)) (x6 != 0) (x7 != 0) (x8 != 0) (x9 != 0) (decide (0 < x10.length)) (decide ((0 : Int) < (x11.length : Int) + (x12.length : Int))) (!x13 == 0 || !x14 == 0) (x15 != 0) (decide (0 < x16.length))
  have hB : bareZ [.int .u64 x0, .int .i64 x1, .int .i64 x2, .int .i64 p0, .int .u64 p1, .list 1 p2, .list 4 q0, .list 1 q1, .int .i64 q2, .int .i64 z0, .int .i64 z1, .int .i64 z2, .int .i64 z3, .int .i64 z4, .int .i64 z5, .int .i64 z6, .int .i64 z7, .int .i64 z8, .list 2 p5, .list 4 p6, .int .i64 p7, .int .i64 p8, .int .i64 p9, .list 1 x4, .list 1 x5, .int .i64 x6, .int .u64 x7, .int .i64 x8, .int .i64 x9, .list 1 x10, .list 1 x11, .list 1 x12, .int .i64 x13, .int .i64 x14, .int .i64 x15, .list 3 x16] = ((x2 == 0) && (((x4.length : Int) == 0) && (((x5.length : Int) == 0) && ((x6 == 0) && ((x7 == 0) && ((x8 == 0) && ((x9 == 0) && (((x10.length : Int) == 0) && (((x11.length : Int) == 0) && (((x12.length : Int) == 0) && ((x13 == 0 && x14 == 0) && ((x15 == 0) && (((x16.length : Int) == 0) && noneZ [.int .i64 p0, .int .u64 p1, .list 1 p2, .list 4 q0, .list 1 q1, .int .i64 q2, .int .i64 z0, .int .i64 z1, .int .i64 z2, .int .i64 z3, .int .i64 z4, .int .i64 z5, .int .i64 z6, .int .i64 z7, .int .i64 z8, .list 2 p5, .list 4 p6, .int .i64 p7, .int .i64 p8, .int .i64 p9]))))))))))))) := rfl
  rw [hB]
  clear hB
  generalize noneZ [.int .i64 p0, .int .u64 p1, .list 1 p2, .list 4 q0, .list 1 q1, .int .i64 q2, .int .i64 z0, .int .i64 z1, .int .i64 z2, .int .i64 z3, .int .i64 z4, .int .i64 z5, .int .i64 z6, .int .i64 z7, .int .i64 z8, .list 2 p5, .list 4 p6, .int .i64 p7, .int .i64 p8, .int .i64 p9] = nz at *
  generalize hS : mk (decide (0 < x16.length)) 4096 (mk (x15 != 0) 2048 (mk (!x13 == 0 || !x14 == 0) 1024 (mk (decide ((0 : Int) < (x11.length : Int) + (x12.length : Int))) 512 (mk (decide (0 < x10.length)) 256 (mk (x9 != 0) 128 (mk (x8 != 0) 64 (mk (x7 != 0) 32 (mk (x6 != 0) 16 (mk (decide (0 < x5.length)) 8 (mk (decide (0 < x4.length)) 4 (mk (!nz) 2 (mk (x2 != 0) 1 0)))))))))))) = S at m1 m2 m3
  have hf := fin_zero m1 m2
  have hZ : (S == 0) = ((x2 == 0) && (((x4.length : Int) == 0) && (((x5.length : Int) == 0) && ((x6 == 0) && ((x7 == 0) && ((x8 == 0) && ((x9 == 0) && (((x10.length : Int) == 0) && (((x11.length : Int) == 0) && (((x12.length : Int) == 0) && ((x13 == 0 && x14 == 0) && ((x15 == 0) && (((x16.length : Int) == 0) && nz))))))))))))) := by
    rw [Bool.eq_iff_iff, beq_iff_eq, m3]
    simp only [Bool.and_eq_true, beq_iff_eq, bne_eq_false_iff_eq, Bool.not_eq_false', decide_eq_false_iff_not, Bool.or_eq_false_iff]
    constructor
    · rintro ⟨a1, a2, a3, a4, a5, a6, a7, a8, a9, a10, ⟨a11, a12⟩, a13, a14⟩
      exact ⟨a1, by omega, by omega, a5, a6, a7, a8, by omega, by omega, by omega, ⟨a11, a12⟩, a13, by omega, a2⟩
    · rintro ⟨a1, a3, a4, a5, a6, a7, a8, a9, a10, a10b, ⟨a11, a12⟩, a13, a14, a2⟩
      exact ⟨a1, a2, by omega, by omega, a5, a6, a7, a8, by omega, by omega, ⟨a11, a12⟩, a13, by omega⟩
  rw [← hZ]
  repeat (first | refine ZS ?_ | refine ZK tm on_specs_ok rfl (by conv => lhs; simp [hN, mkkS_eq, w1, hS, hf]) fun _ => ?_ | refine ZL tm on_specs_ok rfl (by conv => lhs; simp [hN, mkkS_eq, w1, hS, hf]) fun _ => ?_)
  first | exact Ret.dataR rfl (by conv => lhs; simp) (by conv => lhs; simp) (by first | rfl | simp [inlT, inlV]) | fail "no return here"
end Go.Abs.Na
namespace Go.Abs.Na
open Go Go.Proofs Go.Abs
set_option maxRecDepth 100000
set_option maxHeartbeats 4000000
set_option linter.unusedSimpArgs false
set_option linter.unusedVariables false
noncomputable def br_specs : NL Spec := [(208, ⟨1, nnS⟩)]
theorem br_specs_ok : ∀ p ∈ br_specs, FnC Try.prog p.1 p.2.fn := by
  simp only [br_specs, List.mem_cons, List.not_mem_nil, or_false]
  rintro p rfl
  exact bl_ok
attribute [local simp] instA eqlA tgC tgE eqCpu eqEnds br_specs
noncomputable def brS : SpecFn := mkS (fun d : Ob => [.agg d.cells]) fun d => (.bool (bareZ d.cells), [])
theorem brS_eq (d : Ob) : brS [.agg d.cells] [] = some (.bool (bareZ d.cells), []) := mkS_eq (enc := fun d : Ob => [AV.agg d.cells]) tdInj d
theorem br_ok : FnC Try.prog 159 brS := by
  refine FnC.walk 159 (fn := Try.f159) Try.func159 rfl (by kernel_rfl) fun d => ?_
  dsimp only
  obtain ⟨p0, p1, p2, q0, q1, q2, z0, z1, z2, z3, z4, z5, z6, z7, z8, p5, p6, p7, p8, p9, x0, x1, x2, x4, x5, x6, x7, x8, x9, x10, x11, x12, x13, x14, x15, x16, hd, hp, bp, hb⟩ := obView d
  rw [hd]
  have hN := nnS_eq ⟨_, hp, bp⟩
  dsimp only at hN
  clear hd d hp bp
  have hB : bareZ [.int .u64 x0, .int .i64 x1, .int .i64 x2, .int .i64 p0, .int .u64 p1, .list 1 p2, .list 4 q0, .list 1 q1, .int .i64 q2, .int .i64 z0, .int .i64 z1, .int .i64 z2, .int .i64 z3, .int .i64 z4, .int .i64 z5, .int .i64 z6, .int .i64 z7, .int .i64 z8, .list 2 p5, .list 4 p6, .int .i64 p7, .int .i64 p8, .int .i64 p9, .list 1 x4, .list 1 x5, .int .i64 x6, .int .u64 x7, .int .i64 x8, .int .i64 x9, .list 1 x10, .list 1 x11, .list 1 x12, .int .i64 x13, .int .i64 x14, .int .i64 x15, .list 3 x16] = ((x2 == 0) && (((x4.length : Int) == 0) && (((x5.length : Int) == 0) && ((x6 == 0) && ((x7 == 0) && ((x8 == 0) && ((x9 == 0) && (((x10.length : Int) == 0) && (((x11.length : Int) == 0) && (((x12.length : Int) == 0) && ((x13 == 0 && x14 == 0) && ((x15 == 0) && (((x16.length : Int) == 0) && noneZ [.int .i64 p0, .int .u64 p1, .list 1 p2, .list 4 q0, .list 1 q1, .int .i64 q2, .int .i64 z0, .int .i64 z1, .int .i64 z2, .int .i64 z3, .int .i64 z4, .int .i64 z5, .int .i64 z6, .int .i64 z7, .int .i64 z8, .list 2 p5, .list 4 p6, .int .i64 p7, .int .i64 p8, .int .i64 p9]))))))))))))) := rfl
  rw [hB]
  clear hB
  generalize noneZ [.int .i64 p0, .int .u64 p1, .list 1 p2, .list 4 q0, .list 1 q1, .int .i64 q2, .int .i64 z0, .int .i64 z1, .int .i64 z2, .int .i64 z3, .int .i64 z4, .int .i64 z5, .int .i64 z6, .int .i64 z7, .int .i64 z8, .list 2 p5, .list 4 p6, .int .i64 p7, .int .i64 p8, .int .i64 p9] = nz at *
  change W _ (Ret _ _ (.bool ((x2 == 0) && (((x4.length : Int) == 0) && (((x5.length : Int) == 0) && ((x6 == 0) && ((x7 == 0) && ((x8 == 0) && ((x9 == 0) && (((x10.length : Int) == 0) && (((x11.length : Int) == 0) && (((x12.length : Int) == 0) && ((x13 == 0 && x14 == 0) && ((x15 == 0) && (((x16.length : Int) == 0) && (nz))))))))))))))) []) _ _ ⟨80, [(0, .agg [.int .u64 x0, .int .i64 x1, .int .i64 x2, .int .i64 p0, .int .u64 p1, .list 1 p2, .list 4 q0, .list 1 q1, .int .i64 q2, .int .i64 z0, .int .i64 z1, .int .i64 z2, .int .i64 z3, .int .i64 z4, .int .i64 z5, .int .i64 z6, .int .i64 z7, .int .i64 z8, .list 2 p5, .list 4 p6, .int .i64 p7, .int .i64 p8, .int .i64 p9, .list 1 x4, .list 1 x5, .int .i64 x6, .int .u64 x7, .int .i64 x8, .int .i64 x9, .list 1 x10, .list 1 x11, .list 1 x12, .int .i64 x13, .int .i64 x14, .int .i64 x15, .list 3 x16])], []⟩
  dsimp only
  cases h1 : (x2 == 0) with
  | false =>
    repeat (first | refine ZS ?_ | refine ZK tm br_specs_ok rfl (by conv => lhs; simp [hN, h1]) fun _ => ?_ | refine ZL tm br_specs_ok rfl (by conv => lhs; simp [hN, h1]) fun _ => ?_)
    simp only [h1, Bool.true_and, Bool.false_and, Bool.and_false]
    first | exact Ret.dataR rfl (by conv => lhs; simp) (by conv => lhs; simp) (by first | rfl | simp [inlT, inlV]) | fail "no return here"
  | true =>
    cases h2 : ((x4.length : Int) == 0) with
    | false =>
      repeat (first | refine ZS ?_ | refine ZK tm br_specs_ok rfl (by conv => lhs; simp [hN, h1, h2]) fun _ => ?_ | refine ZL tm br_specs_ok rfl (by conv => lhs; simp [hN, h1, h2]) fun _ => ?_)
      simp only [h1, h2, Bool.true_and, Bool.false_and, Bool.and_false]
      first | exact Ret.dataR rfl (by conv => lhs; simp) (by conv => lhs; simp) (by first | rfl | simp [inlT, inlV]) | fail "no return here"
    | true =>
      cases h3 : ((x5.length : Int) == 0) with
      | false =>
        repeat (first | refine ZS ?_ | refine ZK tm br_specs_ok rfl (by conv => lhs; simp [hN, h1, h2, h3]) fun _ => ?_ | refine ZL tm br_specs_ok rfl (by conv => lhs; simp [hN, h1, h2, h3]) fun _ => ?_)
        simp only [h1, h2, h3, Bool.true_and, Bool.false_and, Bool.and_false]
        first | exact Ret.dataR rfl (by conv => lhs; simp) (by conv => lhs; simp) (by first | rfl | simp [inlT, inlV]) | fail "no return here"
      | true =>
        cases h4 : (x6 == 0) with
        | false =>
          repeat (first | refine ZS ?_ | refine ZK tm br_specs_ok rfl (by conv => lhs; simp [hN, h1, h2, h3, h4]) fun _ => ?_ | refine ZL tm br_specs_ok rfl (by conv => lhs; simp [hN, h1, h2, h3, h4]) fun _ => ?_)
          simp only [h1, h2, h3, h4, Bool.true_and, Bool.false_and, Bool.and_false]
          first | exact Ret.dataR rfl (by conv => lhs; simp) (by conv => lhs; simp) (by first | rfl | simp [inlT, inlV]) | fail "no return here"
        | true =>
          cases h5 : (x7 == 0) with
          | false =>
            repeat (first | refine ZS ?_ | refine ZK tm br_specs_ok rfl (by conv => lhs; simp [hN, h1, h2, h3, h4, h5]) fun _ => ?_ | refine ZL tm br_specs_ok rfl (by conv => lhs; simp [hN, h1, h2, h3, h4, h5]) fun _ => ?_)
            simp only [h1, h2, h3, h4, h5, Bool.true_and, Bool.false_and, Bool.and_false]
            first | exact Ret.dataR rfl (by conv => lhs; simp) (by conv => lhs; simp) (by first | rfl | simp [inlT, inlV]) | fail "no return here"
          | true =>
            cases h6 : (x8 == 0) with
            | false =>
              repeat (first | refine ZS ?_ | refine ZK tm br_specs_ok rfl (by conv => lhs; simp [hN, h1, h2, h3, h4, h5, h6]) fun _ => ?_ | refine ZL tm br_specs_ok rfl (by conv => lhs; simp [hN, h1, h2, h3, h4, h5, h6]) fun _ => ?_)
              simp only [h1, h2, h3, h4, h5, h6, Bool.true_and, Bool.false_and, Bool.and_false]
              first | exact Ret.dataR rfl (by conv => lhs; simp) (by conv => lhs; simp) (by first | rfl | simp [inlT, inlV]) | fail "no return here"
            | true =>
              cases h7 : (x9 == 0) with
              | false =>
                repeat (first | refine ZS ?_ | refine ZK tm br_specs_ok rfl (by conv => lhs; simp [hN, h1, h2, h3, h4, h5, h6, h7]) fun _ => ?_ | refine ZL tm br_specs_ok rfl (by conv => lhs; simp [hN, h1, h2, h3, h4, h5, h6, h7]) fun _ => ?_)
                simp only [h1, h2, h3, h4, h5, h6, h7, Bool.true_and, Bool.false_and, Bool.and_false]
                first | exact Ret.dataR rfl (by conv => lhs; simp) (by conv => lhs; simp) (by first | rfl | simp [inlT, inlV]) | fail "no return here"
              | true =>
                cases h8 : ((x10.length : Int) == 0) with
                | false =>
                  repeat (first | refine ZS ?_ | refine ZK tm br_specs_ok rfl (by conv => lhs; simp [hN, h1, h2, h3, h4, h5, h6, h7, h8]) fun _ => ?_ | refine ZL tm br_specs_ok rfl (by conv => lhs; simp [hN, h1, h2, h3, h4, h5, h6, h7, h8]) fun _ => ?_)
                  simp only [h1, h2, h3, h4, h5, h6, h7, h8, Bool.true_and, Bool.false_and, Bool.and_false]
                  first | exact Ret.dataR rfl (by conv => lhs; simp) (by conv => lhs; simp) (by first | rfl | simp [inlT, inlV]) | fail "no return here"
                | true =>
                  cases h9 : ((x11.length : Int) == 0) with
                  | false =>
                    repeat (first | refine ZS ?_ | refine ZK tm br_specs_ok rfl (by conv => lhs; simp [hN, h1, h2, h3, h4, h5, h6, h7, h8, h9]) fun _ => ?_ | refine ZL tm br_specs_ok rfl (by conv => lhs; simp [hN, h1, h2, h3, h4, h5, h6, h7, h8, h9]) fun _ => ?_)
                    simp only [h1, h2, h3, h4, h5, h6, h7, h8, h9, Bool.true_and, Bool.false_and, Bool.and_false]
                    first | exact Ret.dataR rfl (by conv => lhs; simp) (by conv => lhs; simp) (by first | rfl | simp [inlT, inlV]) | fail "no return here"
                  | true =>
                    cases h10 : ((x12.length : Int) == 0) with
                    | false =>
                      repeat (first | refine ZS ?_ | refine ZK tm br_specs_ok rfl (by conv => lhs; simp [hN, h1, h2, h3, h4, h5, h6, h7, h8, h9, h10]) fun _ => ?_ | refine ZL tm br_specs_ok rfl (by conv => lhs; simp [hN, h1, h2, h3, h4, h5, h6, h7, h8, h9, h10]) fun _ => ?_)
                      simp only [h1, h2, h3, h4, h5, h6, h7, h8, h9, h10, Bool.true_and, Bool.false_and, Bool.and_false]
                      first | exact Ret.dataR rfl (by conv => lhs; simp) (by conv => lhs; simp) (by first | rfl | simp [inlT, inlV]) | fail "no return here"
                    | true =>
                      cases h11 : (x13 == 0 && x14 == 0) with
                      | false =>
                        repeat (first | refine ZS ?_ | refine ZK tm br_specs_ok rfl (by conv => lhs; simp [hN, h1, h2, h3, h4, h5, h6, h7, h8, h9, h10, h11]) fun _ => ?_ | refine ZL tm br_specs_ok rfl (by conv => lhs; simp [hN, h1, h2, h3, h4, h5, h6, h7, h8, h9, h10, h11]) fun _ => ?_)
                        simp only [h1, h2, h3, h4, h5, h6, h7, h8, h9, h10, h11, Bool.true_and, Bool.false_and, Bool.and_false]
                        first | exact Ret.dataR rfl (by conv => lhs; simp) (by conv => lhs; simp) (by first | rfl | simp [inlT, inlV]) | fail "no return here"
                      | true =>
                        cases h12 : (x15 == 0) with
                        | false =>
                          repeat (first | refine ZS ?_ | refine ZK tm br_specs_ok rfl (by conv => lhs; simp [hN, h1, h2, h3, h4, h5, h6, h7, h8, h9, h10, h11, h12]) fun _ => ?_ | refine ZL tm br_specs_ok rfl (by conv => lhs; simp [hN, h1, h2, h3, h4, h5, h6, h7, h8, h9, h10, h11, h12]) fun _ => ?_)
                          simp only [h1, h2, h3, h4, h5, h6, h7, h8, h9, h10, h11, h12, Bool.true_and, Bool.false_and, Bool.and_false]
                          first | exact Ret.dataR rfl (by conv => lhs; simp) (by conv => lhs; simp) (by first | rfl | simp [inlT, inlV]) | fail "no return here"
                        | true =>
                          cases h13 : ((x16.length : Int) == 0) with
                          | false =>
                            repeat (first | refine ZS ?_ | refine ZK tm br_specs_ok rfl (by conv => lhs; simp [hN, h1, h2, h3, h4, h5, h6, h7, h8, h9, h10, h11, h12, h13]) fun _ => ?_ | refine ZL tm br_specs_ok rfl (by conv => lhs; simp [hN, h1, h2, h3, h4, h5, h6, h7, h8, h9, h10, h11, h12, h13]) fun _ => ?_)
                            simp only [h1, h2, h3, h4, h5, h6, h7, h8, h9, h10, h11, h12, h13, Bool.true_and, Bool.false_and, Bool.and_false]
                            first | exact Ret.dataR rfl (by conv => lhs; simp) (by conv => lhs; simp) (by first | rfl | simp [inlT, inlV]) | fail "no return here"
                          | true =>
                            repeat (first | refine ZS ?_ | refine ZK tm br_specs_ok rfl (by conv => lhs; simp [hN, h1, h2, h3, h4, h5, h6, h7, h8, h9, h10, h11, h12, h13]) fun _ => ?_ | refine ZL tm br_specs_ok rfl (by conv => lhs; simp [hN, h1, h2, h3, h4, h5, h6, h7, h8, h9, h10, h11, h12, h13]) fun _ => ?_)
                            simp only [h1, h2, h3, h4, h5, h6, h7, h8, h9, h10, h11, h12, h13, Bool.true_and, Bool.and_true]
                            first | exact Ret.dataR rfl (by conv => lhs; simp) (by conv => lhs; simp) (by first | rfl | simp [inlT, inlV]) | fail "no return here"
/-! ### The zero object -/
/-- Whether an object is zero. -/
def zO? (d : Ob) : Bool := match d.cells with
  | .int _ i :: .int _ k :: _ => (i == 0) && ((k == 0) && bareZ d.cells)
  | _ => false
noncomputable def zeS : SpecFn := mkS (fun d : Ob => [.agg d.cells]) fun d => (.bool (zO? d), [])
theorem zeS_eq (d : Ob) : zeS [.agg d.cells] [] = some (.bool (zO? d), []) := mkS_eq (enc := fun d : Ob => [AV.agg d.cells]) tdInj d
noncomputable def ze_specs : NL Spec := [(159, ⟨1, brS⟩), (207, ⟨1, onS⟩)]
theorem ze_specs_ok : ∀ p ∈ ze_specs, FnC Try.prog p.1 p.2.fn := by
  simp only [ze_specs, List.mem_cons, List.not_mem_nil, or_false]
  rintro p (rfl | rfl)
  · exact br_ok
  · exact on_ok
attribute [local simp] ze_specs
theorem zep_ok : FnC Try.prog 158 zeS := by
  refine FnC.walk 158 (fn := Try.f158) Try.func158 rfl (by kernel_rfl) fun d => ?_
  dsimp only
  have k1 := brS_eq d
  have k2 := onS_eq d
  obtain ⟨p0, p1, p2, q0, q1, q2, z0, z1, z2, z3, z4, z5, z6, z7, z8, p5, p6, p7, p8, p9, x0, x1, x2, x4, x5, x6, x7, x8, x9, x10, x11, x12, x13, x14, x15, x16, hd, -, -, -⟩ := obView d
  have hz : zO? d = ((x0 == 0) && ((x1 == 0) && bareZ d.cells)) := by unfold zO?; rw [hd]
  rw [hz]
  generalize bareZ d.cells = b at *
  rw [hd] at k1 k2 ⊢
  clear hz hd d
  change W _ (Ret _ _ (.bool ((x0 == 0) && ((x1 == 0) && b))) []) _ _ ⟨15, [(0, .agg [.int .u64 x0, .int .i64 x1, .int .i64 x2, .int .i64 p0, .int .u64 p1, .list 1 p2, .list 4 q0, .list 1 q1, .int .i64 q2, .int .i64 z0, .int .i64 z1, .int .i64 z2, .int .i64 z3, .int .i64 z4, .int .i64 z5, .int .i64 z6, .int .i64 z7, .int .i64 z8, .list 2 p5, .list 4 p6, .int .i64 p7, .int .i64 p8, .int .i64 p9, .list 1 x4, .list 1 x5, .int .i64 x6, .int .u64 x7, .int .i64 x8, .int .i64 x9, .list 1 x10, .list 1 x11, .list 1 x12, .int .i64 x13, .int .i64 x14, .int .i64 x15, .list 3 x16])], []⟩
  dsimp only
  cases h1 : (x0 == 0) with
  | false =>
    repeat (first | refine ZS ?_ | refine ZK tm ze_specs_ok rfl (by conv => lhs; simp [k1, k2, h1]) fun _ => ?_ | refine ZL tm ze_specs_ok rfl (by conv => lhs; simp [k1, k2, h1]) fun _ => ?_)
    simp only [h1, Bool.true_and, Bool.false_and, Bool.and_false]
    first | exact Ret.dataR rfl (by conv => lhs; simp) (by conv => lhs; simp) (by first | rfl | simp [inlT, inlV]) | fail "no return here"
  | true =>
    cases h2 : (x1 == 0) with
    | false =>
      repeat (first | refine ZS ?_ | refine ZK tm ze_specs_ok rfl (by conv => lhs; simp [k1, k2, h1, h2]) fun _ => ?_ | refine ZL tm ze_specs_ok rfl (by conv => lhs; simp [k1, k2, h1, h2]) fun _ => ?_)
      simp only [h1, h2, Bool.true_and, Bool.false_and, Bool.and_false]
      first | exact Ret.dataR rfl (by conv => lhs; simp) (by conv => lhs; simp) (by first | rfl | simp [inlT, inlV]) | fail "no return here"
    | true =>
      repeat (first | refine ZS ?_ | refine ZK tm ze_specs_ok rfl (by conv => lhs; simp [k1, k2, h1, h2]) fun _ => ?_ | refine ZL tm ze_specs_ok rfl (by conv => lhs; simp [k1, k2, h1, h2]) fun _ => ?_)
      simp only [h1, h2, Bool.true_and, Bool.and_true]
      first | exact Ret.dataR rfl (by conv => lhs; simp) (by conv => lhs; simp) (by first | rfl | simp [inlT, inlV]) | fail "no return here"
end Go.Abs.Na
namespace Go.Abs.Na
open Go Go.Proofs Go.Abs
set_option maxRecDepth 100000
set_option maxHeartbeats 4000000
set_option linter.unusedSimpArgs false
set_option linter.unusedVariables false
theorem tgP : Try.prog.eqGuardType Try.prog.depth 224 = false := by kernel_rfl
theorem tgS : Try.prog.eqGuardType Try.prog.depth 227 = false := by kernel_rfl
theorem tgI : Try.prog.eqGuardType Try.prog.depth 252 = false := by kernel_rfl
theorem thP : Try.prog.stoodInHeld 224 = false := by kernel_rfl
theorem thS : Try.prog.stoodInHeld 227 = false := by kernel_rfl
theorem thI : Try.prog.stoodInHeld 252 = false := by kernel_rfl
theorem eqPg (a : Int) (b : Bool) : eqV Try.prog 9 224 (.agg [.int .u64 a, .bool b]) (.agg [.int .u64 a, .bool b]) = some true := by
  simp [eqV, Try.underlying224, Try.underlying30, Try.underlying4, thP, eqFs, partV]
theorem eqSl (a b c d : Int) : eqV Try.prog 9 227 (.agg [.int .i64 a, .int .u64 b, .int .u64 c, .int .i64 d]) (.agg [.int .i64 a, .int .u64 b, .int .u64 c, .int .i64 d]) = some true := by
  simp [eqV, Try.underlying227, Try.underlying30, Try.underlying3, thS, eqFs, partV]
theorem eqIn (a b c d : Int) : eqV Try.prog 9 252 (.agg [.int .i64 a, .int .i64 b, .int .i64 c, .int .i64 d]) (.agg [.int .i64 a, .int .i64 b, .int .i64 c, .int .i64 d]) = some true := by
  simp [eqV, Try.underlying252, Try.underlying3, Try.underlying2, thI, eqFs, partV]
attribute [local simp] instA binOpA eqlA tgP tgS tgI eqPg eqSl eqIn
/-- Lists of a type, not too long. -/
structure Rw (P : Program) (t : TypeId) where
  rows : List (List AV)
  ty : ∀ r ∈ rows, TyR P 8 t r
  bd : rows.length ≤ 10000
theorem Rw.ext {P : Program} {t : TypeId} {a b : Rw P t} (h : a.rows = b.rows) : a = b := by
  cases a; cases b; simp only at h; subst h; rfl
noncomputable def smS (t : TypeId) (sz : Nat) : SpecFn := mkS (fun d : Rw Try.prog t => [.list sz d.rows, .list sz d.rows]) fun _ => (.bool true, [])
/-! ### Names -/
structure Nms (P : Program) (t : TypeId) where
  rows : List (List AV)
  ty : ∀ r ∈ rows, TyR P 8 t r
  bd : rows.length ≤ 10000
  bs : ∀ r ∈ rows, bdL 10000 r = true
noncomputable def snS : SpecFn := mkS (fun d : Nms Try.prog 137 => [.list 3 d.rows, .list 3 d.rows]) fun _ => (.bool true, [])
/-! ### Programs -/
noncomputable def spr_specs : NL Spec := [(227, ⟨1, smS 9 1⟩)]
attribute [local simp] spr_specs
noncomputable def sprS : SpecFn := mkS (fun d : Prg => [.agg d.cells, .agg d.cells]) fun _ => (.bool true, [])
end Go.Abs.Na
namespace Go.Abs.Na
open Go Go.Proofs Go.Abs
set_option maxRecDepth 100000
set_option maxHeartbeats 4000000
set_option linter.unusedSimpArgs false
set_option linter.unusedVariables false
theorem eqCpuS (a b c d e f g h i : Int) : eqV Try.prog 9 38 (.agg [.int .i64 a, .int .i64 b, .int .i64 c, .int .i64 d, .int .i64 e, .int .i64 f, .int .i64 g, .int .i64 h, .int .i64 i]) (.agg [.int .i64 a, .int .i64 b, .int .i64 c, .int .i64 d, .int .i64 e, .int .i64 f, .int .i64 g, .int .i64 h, .int .i64 i]) = some true := by
  simp [eqCpu]
theorem eqEndsS (a b : Int) : eqV Try.prog 9 45 (.agg [.int .i64 a, .int .i64 b]) (.agg [.int .i64 a, .int .i64 b]) = some true := by
  simp [eqEnds]
attribute [local simp] instA binOpA eqlA tgC tgE eqCpuS eqEndsS
noncomputable def smp_specs : NL Spec := [(142, ⟨1, smS 30 1⟩), (200, ⟨1, sprS⟩), (201, ⟨1, smS 224 2⟩), (202, ⟨1, smS 227 4⟩)]
attribute [local simp] smp_specs
noncomputable def spcS : SpecFn := mkS (fun d : Prc => [.agg d.cells, .agg d.cells]) fun _ => (.bool true, [])
noncomputable def sob_specs : NL Spec := [(142, ⟨1, smS 30 1⟩), (140, ⟨1, spcS⟩), (141, ⟨1, smS 2 1⟩), (143, ⟨1, snS⟩)]
attribute [local simp] sob_specs
noncomputable def sobS : SpecFn := mkS (fun d : Ob => [.agg d.cells, .agg d.cells]) fun _ => (.bool true, [])
end Go.Abs.Na
namespace Go.Abs.Na
open Go Go.Proofs Go.Abs
set_option maxRecDepth 100000
set_option maxHeartbeats 4000000
set_option linter.unusedSimpArgs false
set_option linter.unusedVariables false
theorem obLeafs : (leafs Try.prog 48).length = 36 := by kernel_rfl
@[simp] theorem ob_len (o : Ob) : o.cells.length = 36 := o.len'.trans obLeafs
@[simp] theorem ob_drop (o : Ob) (l : List AV) (n : Nat) (h : 36 ≤ n) : (o.cells ++ l).drop n = l.drop (n - 36) := by
  rw [List.drop_append, ob_len, List.drop_eq_nil_of_le (by rw [ob_len]; omega), List.nil_append]
@[simp] theorem ob_take (o : Ob) (l : List AV) (n : Nat) (h : 36 ≤ n) : (o.cells ++ l).take n = o.cells ++ l.take (n - 36) := by
  rw [List.take_append, ob_len, List.take_of_length_le (by rw [ob_len]; omega)]
@[simp] theorem ob_take0 (o : Ob) : o.cells.take 36 = o.cells := List.take_of_length_le (by rw [ob_len]; omega)
@[simp] theorem ob_get (o : Ob) (l : List AV) (n : Nat) (h : 36 ≤ n) : (o.cells ++ l)[n]? = l[n - 36]? := by
  rw [List.getElem?_append_right (by rw [ob_len]; omega), ob_len]
/-- A token. -/
structure Tok where
  id : Int
  mode : Int
  obj : Ob
  want : Int
  pin : Bool
  due : Bool
@[simp] def Tok.c (t : Tok) : List AV := .int .u64 t.id :: .int .i64 t.mode :: (t.obj.cells ++ [.int .i64 t.want, .bool t.pin, .bool t.due])
theorem Tok.c_inj {s t : Tok} (h : s.c = t.c) : s = t := by
  obtain ⟨a, b, o, c, d, e⟩ := s
  obtain ⟨a', b', o', c', d', e'⟩ := t
  simp only [Tok.c, List.cons.injEq, AV.int.injEq, true_and] at h
  obtain ⟨rfl, rfl, h⟩ := h
  obtain ⟨h1, h2⟩ := List.append_inj h (by simp)
  simp only [List.cons.injEq, AV.int.injEq, AV.bool.injEq, true_and, and_true] at h2
  obtain ⟨rfl, rfl, rfl⟩ := h2
  rw [Td.ext h1]
theorem rows_inj {s t : List Tok} (h : s.map Tok.c = t.map Tok.c) : s = t := by
  induction s generalizing t with
  | nil => cases t with
    | nil => rfl
    | cons => simp at h
  | cons x r ih =>
    cases t with
    | nil => simp at h
    | cons y q =>
      simp only [List.map_cons, List.cons.injEq] at h
      rw [Tok.c_inj h.1, ih h.2]
/-- Tokens of a node, not too many. -/
structure Tks where
  node : Int
  toks : List Tok
  bd : toks.length ≤ 9000
def Tks.v (d : Tks) : AV := .agg [.int .i64 d.node, .list 41 (d.toks.map Tok.c)]
theorem Tks.v_inj {s t : Tks} (h : s.v = t.v) : s = t := by
  obtain ⟨a, l, b⟩ := s
  obtain ⟨a', l', b'⟩ := t
  simp only [Tks.v, AV.agg.injEq, List.cons.injEq, AV.int.injEq, AV.list.injEq, true_and, and_true] at h
  obtain ⟨rfl, h⟩ := h
  cases rows_inj h
  rfl
/-- Reading cells of a type. -/
def tyFsP (q : TypeId → List AV → Option (List AV)) : List TypeId → List AV → Option (List AV)
  | [], xs => some xs
  | t :: r, xs => (q t xs).bind (tyFsP q r)
def tyB : List AV → Option (List AV)
  | .bool _ :: r => some r
  | _ => none
def tyI (k : IntKind) : List AV → Option (List AV)
  | .int k' m :: r => if k = k' ∧ (Lit.int k m).wf = true then some r else none
  | _ => none
def tyS (n : Nat) : List AV → Option (List AV)
  | .list sz [] :: r => if sz = n then some r else none
  | _ => none
def tyP (P : Program) : Nat → TypeId → List AV → Option (List AV)
  | 0, _, _ => none
  | n + 1, t, xs => match P.underlying t with
    | some .bool => tyB xs
    | some (.int k) => tyI k xs
    | some (.slice e) => tyS (P.cellsOf e) xs
    | some (.struct fs) => tyFsP (tyP P n) (fs.toList.map (·.type)) xs
    | some (.array m e) => tyFsP (tyP P n) (List.replicate m e) xs
    | _ => none
theorem tyFsP_ok {q : TypeId → List AV → Option (List AV)} {Q : TypeId → List AV → Prop} (h : ∀ t xs r, q t xs = some r → ∃ a, xs = a ++ r ∧ Q t a) : ∀ (ts : List TypeId) (xs r : List AV), tyFsP q ts xs = some r → ∃ a, xs = a ++ r ∧ TyFs Q ts a
  | [], xs, r, e => by
    simp only [tyFsP, Option.some.injEq] at e
    subst e
    exact ⟨[], rfl, rfl⟩
  | t :: ts, xs, r, e => by
    simp only [tyFsP] at e
    obtain ⟨m, e1, e2⟩ := Option.bind_eq_some_iff.1 e
    obtain ⟨a, rfl, ha⟩ := h _ _ _ e1
    obtain ⟨b, rfl, hb⟩ := tyFsP_ok h ts m r e2
    exact ⟨a ++ b, by rw [List.append_assoc], a, b, rfl, ha, hb⟩
theorem tyP_ok {P : Program} : ∀ (n : Nat) (t : TypeId) (xs r : List AV), tyP P n t xs = some r → ∃ a, xs = a ++ r ∧ TyR P n t a
  | 0, t, xs, r, h => by simp [tyP] at h
  | n + 1, t, xs, r, h => by
    rw [tyP] at h
    split at h
    · rename_i hu
      unfold tyB at h
      split at h
      · rename_i b r'
        cases h
        exact ⟨[.bool b], rfl, by simp only [TyR, hu]; exact ⟨b, rfl⟩⟩
      · cases h
    · rename_i k hu
      unfold tyI at h
      split at h
      · rename_i k' m r'
        split at h
        · rename_i hk
          obtain ⟨rfl, hw⟩ := hk
          cases h
          exact ⟨[.int k m], rfl, by simp only [TyR, hu]; exact ⟨m, rfl, hw⟩⟩
        · cases h
      · cases h
    · rename_i e hu
      unfold tyS at h
      split at h
      · rename_i sz r'
        split at h
        · rename_i hk
          subst hk
          cases h
          refine ⟨[.list _ []], rfl, ?_⟩
          simp only [TyR, hu]
          exact ⟨[], rfl, by simp [maxLen], by simp⟩
        · cases h
      · cases h
    · rename_i fs hu
      obtain ⟨a, e1, e2⟩ := tyFsP_ok (Q := TyR P n) (fun t xs r h => tyP_ok n t xs r h) _ _ _ h
      refine ⟨a, e1, ?_⟩
      simp only [TyR, hu]
      exact e2
    · rename_i m e hu
      obtain ⟨a, e1, e2⟩ := tyFsP_ok (Q := TyR P n) (fun t xs r h => tyP_ok n t xs r h) _ _ _ h
      refine ⟨a, e1, ?_⟩
      simp only [TyR, hu]
      exact e2
    · cases h
def zN : List AV := [.int .u64 0, .int .i64 0, .int .i64 0, .int .i64 0, .int .u64 0, .list 1 [], .list 4 [], .list 1 [], .int .i64 0, .int .i64 0, .int .i64 0, .int .i64 0, .int .i64 0, .int .i64 0, .int .i64 0, .int .i64 0, .int .i64 0, .int .i64 0, .list 2 [], .list 4 [], .int .i64 0, .int .i64 0, .int .i64 0, .list 1 [], .list 1 [], .int .i64 0, .int .u64 0, .int .i64 0, .int .i64 0, .list 1 [], .list 1 [], .list 1 [], .int .i64 0, .int .i64 0, .int .i64 0, .list 3 []]
theorem zN_eq : nrmL Try.prog (leafs Try.prog 48) zO = zN := by kernel_rfl
theorem zN_p : tyP Try.prog 8 48 zN = some [] := by kernel_rfl
theorem zObTy : TyR Try.prog 8 48 zN := by
  obtain ⟨a, h1, h2⟩ := tyP_ok 8 _ _ _ zN_p
  rw [List.append_nil] at h1
  rw [h1]
  exact h2
theorem zN_b : bdL 10000 zN = true := by kernel_rfl
def zOb : Ob := ⟨zN, zObTy, zN_b⟩
def fnd (id : Int) : List Tok → Option Tok
  | [] => none
  | t :: r => if t.id = id then some t else fnd id r
def tok0 (id : Int) : Tok := ⟨id, 0, zOb, 0, false, false⟩
noncomputable def fndS : SpecFn := mkS (fun d : Tks × Int => [d.1.v, .int .u64 d.2]) fun d => (.agg ((fnd d.2 d.1.toks).getD (tok0 d.2)).c, [])
attribute [local simp] instA
end Go.Abs.Na
namespace Go.Abs.Na
open Go Go.Proofs Go.Abs
set_option maxRecDepth 100000
set_option maxHeartbeats 4000000
set_option linter.unusedSimpArgs false
set_option linter.unusedVariables false
/-- The rest of a list with a token put into it; 'done': it is there already, or is not to be put. -/
def putL (t : Tok) : Bool → List Tok → List Tok
  | done, [] => if done = true then [] else [t]
  | done, r :: rs => (if done = false ∧ t.id ≤ r.id then [t] else []) ++ ((if r.id = t.id then [] else [r]) ++ putL t (done || decide (t.id ≤ r.id)) rs)
def Tok.gone (t : Tok) : Bool := t.mode == 0 && t.want == 0
def put (t : Tok) (l : List Tok) : List Tok := putL t t.gone l
noncomputable def putS : SpecFn := mkS (fun d : Tks × Tok => [d.1.v, .agg d.2.c]) fun d => (.agg [.int .i64 d.1.node, .list 41 ((put d.2 d.1.toks).map Tok.c)], [])
/-- A list that is added to. -/
def tkB (g : Nat) (l : List Tok) : ABlk := { gen := g, kind := 2, elem := 77, size := 41, inl := true, rows := l.map Tok.c }
def IsAcc (h : NL ABlk) (P : AV) (l : List Tok) : Prop := (P = .nils ∧ l = []) ∨ ∃ g, (P = .sl 656 g 0 l.length ∧ lk h 656 = some (tkB g l)) ∨ (P = .sl 832 g 0 l.length ∧ lk h 832 = some (tkB g l))
attribute [local simp] instA
theorem m1 : (1 : Nat) ≤ maxLen := by decide
theorem m2 : (2 : Nat) ≤ maxLen := by decide
theorem first_all {n : Nat} {l : List (List AV)} (h : l.length = n) : firstRows n l = l := by
  subst h
  simp [firstRows]
structure PI (nd : Int) (l : List Tok) (t : Tok) (gone : Bool) (k : Nat) (h : NL ABlk) (P : AV) (acc : List Tok) (dn : Bool) : Prop where
  hk : k ≤ l.length
  len : acc.length ≤ 2 * k
  eq : putL t gone l = acc ++ putL t dn (l.drop k)
  h64 : lk h 64 = some { gen := 1, kind := 2, elem := 77, size := 41, inl := false, rows := [.int .u64 t.id :: .int .i64 t.mode :: (t.obj.cells ++ [.int .i64 t.want, .bool t.pin, .bool t.due])] }
  h80 : lk h 80 = some { gen := 1, kind := 2, elem := 69, size := 2, inl := false, rows := [[.int .i64 0, .nils]] }
  h96 : lk h 96 = some { gen := 1, kind := 2, elem := 69, size := 2, inl := false, rows := [[.int .i64 nd, P]] }
  hP : IsAcc h P acc
end Go.Abs.Na
namespace Go.Abs.Na
open Go Go.Proofs Go.Abs
set_option maxRecDepth 100000
set_option maxHeartbeats 4000000
set_option linter.unusedSimpArgs false
set_option linter.unusedVariables false
def okM (m : Int) : Bool := m == 1 || m == 2
def okN (m : Int) : Bool := decide (0 ≤ m) && decide (m ≤ 127)
noncomputable def boS (f : Int → Bool) : SpecFn := mkS (fun d : Int => [.int .i64 d]) fun d => (.bool (f d), [])
theorem boS_eq (f : Int → Bool) (d : Int) : boS f [.int .i64 d] [] = some (.bool (f d), []) :=
  mkS_eq (enc := fun d : Int => [AV.int .i64 d]) (fun x y h => by
    simp only [List.cons.injEq, AV.int.injEq, true_and, and_true] at h
    rw [h]) d
attribute [local simp] instA
/-! ### One token -/
theorem ob_view (o : Ob) : ∃ i r, o.cells = .int .u64 i :: r := by
  obtain ⟨x0, x1, x2, xp, x4, x5, x6, x7, x8, x9, x10, x11, x12, x13, x14, x15, x16, h, -⟩ := viewObject o.ty
  exact ⟨x0, _, h⟩
noncomputable def oid (o : Ob) : Int := (ob_view o).choose
theorem oid_eq (o : Ob) : ∃ r, o.cells = .int .u64 (oid o) :: r := (ob_view o).choose_spec
/-- The first of cells. -/
def hdA : List AV → AP AV
  | x :: _ => .ret x
  | [] => .fail
theorem mkv_hd (P : Program) (t : TypeId) (cells : List AV) : mkv P t cells = match aggT P t with
  | some true => match szOf P t with
    | some s => if s ≤ cells.length then .ret (.agg (cells.take s)) else .fail
    | none => .fail
  | some false => hdA cells
  | none => .fail := by
  unfold mkv hdA
  rfl
@[local simp] theorem hdA_cons (x : AV) (r : List AV) : hdA (x :: r) = .ret x := rfl
@[local simp] theorem hdA_ob (o : Ob) (l : List AV) : hdA (o.cells ++ l) = .ret (.int .u64 (oid o)) := by
  obtain ⟨r, h⟩ := oid_eq o
  rw [h]
  rfl
@[local simp] theorem hdA_ob' (o : Ob) : hdA o.cells = .ret (.int .u64 (oid o)) := by
  obtain ⟨r, h⟩ := oid_eq o
  rw [h]
  rfl
attribute [-simp] mkv
attribute [local simp] mkv_hd
noncomputable def fineR (t : Tok) : Bool := t.id != 0 && ((t.mode == 0 || okM t.mode) && ((t.want == 0 || (okM t.want && decide (t.mode < t.want))) && ((zO? t.obj || (oid t.obj == t.id && t.mode != 0)) && ((!t.pin || t.mode != 0) && ((!t.due || t.pin) && (t.mode != 0 || t.want != 0))))))
noncomputable def toS (f : Tok → Bool) : SpecFn := mkS (fun d : Tok => [.agg d.c]) fun d => (.bool (f d), [])
noncomputable def fr_specs : NL Spec := [(79, ⟨1, boS okM⟩), (84, ⟨1, zeS⟩)]
attribute [local simp] fr_specs
end Go.Abs.Na
namespace Go.Abs.Na
open Go Go.Proofs Go.Abs
set_option maxRecDepth 100000
set_option maxHeartbeats 4000000
set_option linter.unusedSimpArgs false
set_option linter.unusedVariables false
attribute [local simp] instA
attribute [-simp] mkv
attribute [local simp] mkv_hd hdA_cons hdA_ob hdA_ob'
noncomputable def fi_specs : NL Spec := [(158, ⟨1, zeS⟩)]
attribute [local simp] fi_specs
noncomputable def fitS : SpecFn := mkS (fun d : Ob × Int => [.agg d.1.cells, .int .u64 d.2]) fun d => (.bool (oid d.1 == d.2 || zO? d.1), [])
theorem fitS_eq (o : Ob) (id : Int) : fitS [.agg o.cells, .int .u64 id] [] = some (.bool (oid o == id || zO? o), []) :=
  mkS_eq (enc := fun d : Ob × Int => [AV.agg d.1.cells, .int .u64 d.2]) (fun x y h => by
    obtain ⟨a, b⟩ := x
    obtain ⟨a', b'⟩ := y
    simp only [List.cons.injEq, AV.agg.injEq, AV.int.injEq, true_and, and_true] at h
    obtain ⟨h, rfl⟩ := h
    cases Td.ext h
    rfl) (o, id)
noncomputable def fineI (t : Tok) : Bool := !(t.id == 0 || ((!okM t.mode && t.mode != 0) || ((!okM t.want && t.want != 0) || ((!okM t.mode && !okM t.want) || (okM t.want && decide (t.want ≤ t.mode)))))) && (!((t.pin && !okM t.mode) || ((t.due && !t.pin) || (!okM t.mode && !zO? t.obj))) && (oid t.obj == t.id || zO? t.obj))
noncomputable def fn_specs : NL Spec := [(75, ⟨1, boS okM⟩), (158, ⟨1, zeS⟩), (82, ⟨1, fitS⟩)]
attribute [local simp] fn_specs
end Go.Abs.Na
namespace Go.Abs.Na
open Go Go.Proofs Go.Abs
set_option maxRecDepth 100000
set_option maxHeartbeats 4000000
set_option linter.unusedSimpArgs false
set_option linter.unusedVariables false
attribute [local simp] instA
noncomputable def good (l : List Tok) (j : Nat) : Bool := match l[j]? with
  | none => true
  | some t => fineR t && match j with
    | 0 => true
    | i + 1 => match l[i]? with
      | some s => decide (s.id < t.id)
      | none => true
noncomputable def valid (nd : Int) (l : List Tok) : Bool := (List.range l.length).all (good l) && okN nd
noncomputable def vaS : SpecFn := mkS (fun d : Tks => [d.v]) fun d => (.bool (valid d.node d.toks), [])
noncomputable def vap_specs : NL Spec := [(151, ⟨1, toS fineI⟩), (91, ⟨1, boS okN⟩)]
attribute [local simp] vap_specs
noncomputable def var_specs : NL Spec := [(157, ⟨1, toS fineR⟩), (95, ⟨1, boS okN⟩)]
attribute [local simp] var_specs
end Go.Abs.Na
namespace Go.Abs.Na
open Go Go.Proofs Go.Abs
set_option maxRecDepth 100000
set_option maxHeartbeats 4000000
set_option linter.unusedSimpArgs false
set_option linter.unusedVariables false
attribute [local simp] instA
attribute [-simp] mkv
attribute [local simp] mkv_hd hdA_cons hdA_ob hdA_ob'
noncomputable def pr_specs : NL Spec := [(78, ⟨1, vaS⟩), (79, ⟨1, boS okM⟩), (80, ⟨1, fndS⟩), (81, ⟨1, putS⟩)]
attribute [local simp] pr_specs
/-! ### Putting an object -/
noncomputable def po_specs : NL Spec := [(78, ⟨1, vaS⟩), (80, ⟨1, fndS⟩), (84, ⟨1, zeS⟩), (81, ⟨1, putS⟩)]
attribute [local simp] po_specs
end Go.Abs.Na
namespace Go.Abs.Na
open Go Go.Proofs Go.Abs
set_option maxRecDepth 100000
set_option maxHeartbeats 4000000
set_option linter.unusedSimpArgs false
set_option linter.unusedVariables false
attribute [local simp] instA binOpA
def sp0 (id : Int) : Int := IntKind.i64.wrap (id.fdiv (2 ^ min 56 IntKind.u64.bits))
def sp1 (id : Int) : Int := IntKind.i64.wrap (IntKind.u64.wrap ↑((id.fdiv (2 ^ min 40 IntKind.u64.bits) % 2 ^ IntKind.u64.bits).toNat &&& 65535 % 2 ^ IntKind.u64.bits))
def sp2 (id : Int) : Int := IntKind.i64.wrap (IntKind.u64.wrap ↑((id % 2 ^ IntKind.u64.bits).toNat &&& 1099511627775 % 2 ^ IntKind.u64.bits))
noncomputable def spS : SpecFn := mkS (fun d : Int => [.int .u64 d]) fun d => (.tup [.int .i64 (sp0 d), .int .i64 (sp1 d), .int .i64 (sp2 d)], [])
theorem spS_eq (id : Int) : spS [.int .u64 id] [] = some (.tup [.int .i64 (sp0 id), .int .i64 (sp1 id), .int .i64 (sp2 id)], []) :=
  mkS_eq (enc := fun d : Int => [AV.int .u64 d]) (fun x y h => by
    simp only [List.cons.injEq, AV.int.injEq, true_and, and_true] at h
    rw [h]) id
theorem sp_id : FnC Try.prog 85 spS := by
  refine FnC.walk 85 (fn := Try.f85) Try.func85 rfl (by kernel_rfl) fun id => ?_
  change W _ (Ret _ _ (.tup [.int .i64 (sp0 id), .int .i64 (sp1 id), .int .i64 (sp2 id)]) []) _ _ ⟨15, [(0, .int .u64 id)], []⟩
  repeat (first | refine ZS ?_ | refine ZK tm no_specs rfl (by conv => lhs; simp) fun _ => ?_ | refine ZL tm no_specs rfl (by conv => lhs; simp) fun _ => ?_)
  simp only [sp0, sp1, sp2]
  first | exact Ret.dataR rfl (by conv => lhs; simp) (by conv => lhs; simp) (by first | rfl | simp [inlT, inlV]) | fail "no return here"
attribute [-simp] mkv
attribute [local simp] mkv_hd hdA_cons hdA_ob hdA_ob'
noncomputable def mr_specs : NL Spec := [(78, ⟨1, vaS⟩), (80, ⟨1, fndS⟩), (89, ⟨1, spS⟩), (81, ⟨1, putS⟩)]
attribute [local simp] mr_specs
end Go.Abs.Na
namespace Go.Abs.Na
open Go Go.Proofs Go.Abs
set_option maxRecDepth 100000
set_option maxHeartbeats 4000000
set_option linter.unusedSimpArgs false
set_option linter.unusedVariables false
attribute [local simp] instA
attribute [-simp] mkv
attribute [local simp] mkv_hd hdA_cons hdA_ob hdA_ob'
/-- A message. -/
structure Msg where
  fr : Int
  to : Int
  kind : Int
  id : Int
  mode : Int
  obj : Ob
  a : Int
  b : Int
  c : Int
  e : Int
@[simp] def Msg.v (m : Msg) : List AV := .int .i64 m.fr :: .int .i64 m.to :: .int .i64 m.kind :: .int .u64 m.id :: .int .i64 m.mode :: (m.obj.cells ++ [.int .u64 m.a, .int .i64 m.b, .int .u64 m.c, .int .i64 m.e])
theorem msgLeafs : leafs Try.prog 50 = 3 :: 3 :: 3 :: 30 :: 3 :: (leafs Try.prog 48 ++ [30, 2, 30, 3]) := by rw [lf50, lf48]; rfl
theorem msg_nrm (m : Msg) : nrmL Try.prog (leafs Try.prog 50) m.v = m.v := by
  rw [msgLeafs]
  simp only [Msg.v, nrmL]
  rw [nrmL_append _ _ _ _ m.obj.len'.symm, m.obj.nrmL]
  simp [nrmL, nrmV]
theorem msg_nrm0 (f t k i m : Int) : nrmL Try.prog (leafs Try.prog 50) (.int .i64 f :: .int .i64 t :: .int .i64 k :: .int .u64 i :: .int .i64 m :: (zO ++ [.int .u64 0, .int .i64 0, .int .u64 0, .int .i64 0])) = (⟨f, t, k, i, m, zOb, 0, 0, 0, 0⟩ : Msg).v := by
  rw [msgLeafs]
  simp only [Msg.v, nrmL]
  rw [nrmL_append _ _ _ _ (by rw [obLeafs]; rfl), zN_eq]
  simp [nrmL, nrmV, zOb]
noncomputable def putN : SpecFn := nS Try.prog [69, 77] putS
/-- Tokens and a message. -/
def rM (n : Int) (l : List Tok) (m : Msg) : AV := .tup [.agg [.int .i64 n, .list 41 (l.map Tok.c)], .agg m.v]
noncomputable def bckM (nd : Int) (t : Tok) (to : Int) : Msg := ⟨nd, to, 4, t.id, t.mode, if t.mode = 2 then t.obj else zOb, 0, 0, 0, 0⟩
noncomputable def bckT (t : Tok) : Tok := ⟨t.id, 0, zOb, t.want, false, false⟩
noncomputable def bckS : SpecFn := mkS (fun d : Tks × Tok × Int => [d.1.v, .agg d.2.1.c, .int .i64 d.2.2]) fun d => (rM d.1.node (put (bckT d.2.1) d.1.toks) (bckM d.1.node d.2.1 d.2.2), [])
noncomputable def br2_specs : NL Spec := [(81, ⟨1, putN⟩)]
attribute [local simp] br2_specs
end Go.Abs.Na
namespace Go.Abs.Na
open Go Go.Proofs Go.Abs
set_option maxRecDepth 100000
set_option maxHeartbeats 4000000
set_option linter.unusedSimpArgs false
set_option linter.unusedVariables false
attribute [local simp] slice3A slice3C instA
attribute [local simp] instA
attribute [-simp] mkv
attribute [local simp] mkv_hd hdA_cons hdA_ob hdA_ob'
noncomputable def cp_specs : NL Spec := [(162, ⟨3, cloneC 77 41 496⟩), (56, ⟨1, cobS⟩)]
attribute [local simp] cp_specs
/-! ### Finding one: the functions that are handed on -/
def u8B (id : Int) : ABlk := { gen := 0, kind := 2, elem := 30, size := 1, inl := false, rows := [[.int .u64 id]] }
def encF (d : Tok × Int) : List AV × List ABlk := ([.agg d.1.c, .ptr 0 0 0 0], [u8B d.2])
noncomputable def fqS : SpecFn := mkS2 encF fun d => (.bool (d.1.id == d.2), [u8B d.2])
end Go.Abs.Na
namespace Go.Abs.Na
open Go Go.Proofs Go.Abs
set_option maxRecDepth 100000
set_option maxHeartbeats 4000000
set_option linter.unusedSimpArgs false
set_option linter.unusedVariables false
attribute [local simp] instA
attribute [-simp] mkv
attribute [local simp] mkv_hd hdA_cons hdA_ob hdA_ob'
def idxF (id : Int) : Nat → List Tok → Int
  | _, [] => -1
  | k, t :: r => if t.id = id then (k : Int) else idxF id (k + 1) r
def encI (d : {l : List Tok // l.length ≤ 9000} × Int) : List AV × List ABlk := ([.list 41 (d.1.1.map Tok.c), .fn (.func 164) [] [.ptr 0 0 0 0]], [u8B d.2])
noncomputable def ixS : SpecFn := mkS2 encI fun d => (.int .i64 (idxF d.2 0 d.1.1), [u8B d.2])
noncomputable def ix_specs : NL Spec := [(164, ⟨3, fqS⟩)]
attribute [local simp] ix_specs
noncomputable def fd_specs : NL Spec := [(160, ⟨3, ixS⟩)]
attribute [local simp] fd_specs
/-! ### Holding -/
noncomputable def ho_specs : NL Spec := [(75, ⟨1, boS okM⟩), (97, ⟨1, fndS⟩)]
attribute [local simp] ho_specs
end Go.Abs.Na
namespace Go.Abs.Na
open Go Go.Proofs Go.Abs
set_option maxRecDepth 100000
set_option maxHeartbeats 4000000
set_option linter.unusedSimpArgs false
set_option linter.unusedVariables false
attribute [local simp] instA
attribute [-simp] mkv
attribute [local simp] mkv_hd hdA_cons hdA_ob hdA_ob'
noncomputable def ls_specs : NL Spec := [(60, ⟨1, sobS⟩)]
attribute [local simp] ls_specs
/-! ### Messages -/
end Go.Abs.Na
namespace Go.Abs.Na
open Go Go.Proofs Go.Abs
set_option maxRecDepth 100000
set_option maxHeartbeats 4000000
set_option linter.unusedSimpArgs false
set_option linter.unusedVariables false
/-! ### Dice -/
def byte (b : UInt8) : List AV := [.int .u8 b.toNat]
def diceB (l : List UInt8) : ABlk := { gen := 0, kind := 2, elem := 140, size := 1, rows := [[.list 1 (l.map byte)]] }
def dn (l : List UInt8) (n : Int) : Int := match l with
  | [] => 0
  | b :: _ => if n ≤ 1 then 0 else (b.toNat : Int).tmod n
def dl (l : List UInt8) (n : Int) : List UInt8 := match l with
  | [] => []
  | b :: r => if n ≤ 1 then b :: r else r
def encD (x : List UInt8 × Int) : List AV × List ABlk := ([.ptr 0 0 0 0, .int .i64 x.2], [diceB x.1])
noncomputable def diceS : SpecFn := mkS2 encD fun x => (.int .i64 (dn x.1 x.2), [diceB (dl x.1 x.2)])
attribute [local simp] convertA sliceArrA sliceA bndA nilCheckA
/-! ### New dice -/
attribute [local simp] sliceArrA sliceA bndA mmA placesA
end Go.Abs.Na
namespace Go.Abs.Na
open Go Go.Proofs Go.Abs
set_option maxRecDepth 100000
set_option maxHeartbeats 4000000
set_option linter.unusedSimpArgs false
set_option linter.unusedVariables false
attribute [local simp] instA binOpA
def mk3 (a b c : Int) : Int := IntKind.u64.wrap ↑((IntKind.u64.wrap ↑((IntKind.u64.wrap (IntKind.u64.wrap a * 2 ^ min 56 IntKind.u64.bits) % 2 ^ IntKind.u64.bits).toNat ||| (IntKind.u64.wrap (IntKind.u64.wrap b * 2 ^ min 40 IntKind.u64.bits) % 2 ^ IntKind.u64.bits).toNat) % 2 ^ IntKind.u64.bits).toNat ||| (IntKind.u64.wrap c % 2 ^ IntKind.u64.bits).toNat)
structure Idp where
  a : Int
  b : Int
  c : Int
  h1 : 0 ≤ a
  h2 : a ≤ 127
  h3 : 0 ≤ b
  h4 : b ≤ 65535
  h5 : 1 ≤ c
  h6 : c ≤ 1099511627775
noncomputable def mk3S : SpecFn := mkS (fun d : Idp => [.int .i64 d.a, .int .i64 d.b, .int .i64 d.c]) fun d => (.tup [.int .u64 (mk3 d.a d.b d.c), .int .i64 0], [])
/-! ### An identifier of dice -/
def d1 (l : List UInt8) : List UInt8 := dl l 3
def d2 (l : List UInt8) : List UInt8 := dl (d1 l) 2
def d3 (l : List UInt8) : List UInt8 := dl (d2 l) 9
noncomputable def id_specs : NL Spec := [(26, ⟨3, diceS⟩), (74, ⟨1, mk3S⟩)]
attribute [local simp] id_specs
end Go.Abs.Na
namespace Go.Abs.Na
open Go Go.Proofs Go.Abs
set_option maxRecDepth 100000
set_option maxHeartbeats 4000000
set_option linter.unusedSimpArgs false
set_option linter.unusedVariables false
attribute [local simp] instA
attribute [-simp] mkv
attribute [local simp] mkv_hd hdA_cons hdA_ob hdA_ob'
noncomputable def wn_specs : NL Spec := [(78, ⟨1, vaS⟩), (79, ⟨1, boS okM⟩), (95, ⟨1, boS okN⟩), (80, ⟨1, fndS⟩), (81, ⟨1, putS⟩)]
attribute [local simp] wn_specs
end Go.Abs.Na
namespace Go.Abs.Na
open Go Go.Proofs Go.Abs
set_option maxRecDepth 100000
set_option maxHeartbeats 4000000
set_option linter.unusedSimpArgs false
set_option linter.unusedVariables false
attribute [local simp] instA
attribute [-simp] mkv
attribute [local simp] mkv_hd hdA_cons hdA_ob hdA_ob'
noncomputable def gr_specs : NL Spec := [(78, ⟨1, vaS⟩), (79, ⟨1, boS okM⟩), (84, ⟨1, zeS⟩), (80, ⟨1, fndS⟩), (81, ⟨1, putS⟩)]
attribute [local simp] gr_specs
end Go.Abs.Na
namespace Go.Abs.Na
open Go Go.Proofs Go.Abs
set_option maxRecDepth 100000
set_option maxHeartbeats 4000000
set_option linter.unusedSimpArgs false
set_option linter.unusedVariables false
attribute [local simp] instA
attribute [-simp] mkv
attribute [local simp] mkv_hd hdA_cons hdA_ob hdA_ob'
noncomputable def rv_specs : NL Spec := [(78, ⟨1, vaS⟩), (80, ⟨1, fndS⟩), (81, ⟨1, putS⟩), (96, ⟨1, bckS⟩)]
attribute [local simp] rv_specs
end Go.Abs.Na
namespace Go.Abs.Na
open Go Go.Proofs Go.Abs
set_option linter.unusedSimpArgs false
set_option linter.unusedVariables false
end Go.Abs.Na
namespace Go.Abs.Na
open Go Go.Proofs Go.Abs
set_option maxRecDepth 100000
set_option maxHeartbeats 4000000
set_option linter.unusedSimpArgs false
set_option linter.unusedVariables false
attribute [local simp] instA
attribute [-simp] mkv
attribute [local simp] mkv_hd hdA_cons hdA_ob hdA_ob'
/-! ### Putting and making -/
noncomputable def pt_specs : NL Spec := [(56, ⟨1, cobS⟩)]
attribute [local simp] pt_specs
end Go.Abs.Na
namespace Go.Abs.Na
open Go Go.Proofs Go.Abs
set_option maxRecDepth 100000
set_option maxHeartbeats 4000000
set_option linter.unusedSimpArgs false
set_option linter.unusedVariables false
attribute [local simp] instA
noncomputable def un_specs : NL Spec := [(91, ⟨1, boS okN⟩)]
attribute [local simp] un_specs
end Go.Abs.Na
namespace Go.Abs.Na
open Go Go.Proofs Go.Abs
set_option maxRecDepth 100000
set_option maxHeartbeats 4000000
set_option linter.unusedSimpArgs false
set_option linter.unusedVariables false
attribute [local simp] instA
def iC (m : Int) : List AV := [.int .i64 m]
noncomputable def xn_specs : NL Spec := [(90, ⟨1, boS fun m => !okN m⟩)]
attribute [local simp] xn_specs
end Go.Abs.Na
namespace Go.Abs.Na
open Go Go.Proofs Go.Abs
set_option maxRecDepth 100000
set_option maxHeartbeats 4000000
set_option linter.unusedSimpArgs false
set_option linter.unusedVariables false
theorem AVi {k : IntKind} {a b : Int} (h : AV.int k a = AV.int k b) : a = b := by cases h; rfl
theorem AVg {a b : List AV} (h : AV.agg a = AV.agg b) : a = b := by cases h; rfl
theorem AVl {n : Nat} {a b : List (List AV)} (h : AV.list n a = AV.list n b) : a = b := by cases h; rfl
theorem map_inj' {α β : Type} {f : α → β} (hf : ∀ a b, f a = f b → a = b) : ∀ {s t : List α}, s.map f = t.map f → s = t
  | [], [], _ => rfl
  | [], _ :: _, h => by simp at h
  | _ :: _, [], h => by simp at h
  | x :: r, y :: q, h => by
    simp only [List.map_cons, List.cons.injEq] at h
    rw [hf _ _ h.1, map_inj' hf h.2]
end Go.Abs.Na
namespace Go.Abs.Na
open Go Go.Proofs Go.Abs
set_option maxRecDepth 100000
set_option maxHeartbeats 4000000
set_option linter.unusedSimpArgs false
set_option linter.unusedVariables false
attribute [local simp] slice3A slice3C instA
end Go.Abs.Na
namespace Go.Abs.Na
open Go Go.Proofs Go.Abs
set_option maxRecDepth 100000
set_option maxHeartbeats 4000000
set_option linter.unusedSimpArgs false
set_option linter.unusedVariables false
attribute [local simp] instA
noncomputable def nan64R (x : Int) : AV := .bool false
noncomputable def nan64S : SpecFn := mkS (fun p : Int => [.int .u64 p]) fun p => (nan64R p, [])
theorem nan64_eq (x : Int) : nan64S [.int .u64 x] [] = some (nan64R (x), []) :=
  mkS_eq (enc := fun p : Int => [.int .u64 p]) (res := fun p => (nan64R p, [])) (fun x y h => by
    obtain ⟨h0, h⟩ := List.cons.inj h
    have e0 := AVi h0
    subst e0
    rfl) (x)
theorem nan64_ok : FnC Try.prog 204 nan64S := by
  refine FnC.walk 204 (fn := Try.f204) Try.func204 rfl (by kernel_rfl) fun p => ?_
  revert p; intro x
  change W _ (Ret _ _ (nan64R (x)) []) _ _ ⟨6, [(0, .int .u64 x)], []⟩
  repeat' (first | refine ZV ?_ | refine ZB tm no_specs ?_ | refine ZH (fun hb => ?_) (fun hb => ?_) | refine ZJ (by conv => lhs; simp) ?_ | refine ZA (fun hb => ?_) (fun hb => ?_))
  all_goals (first | refine Ret.dataE rfl (by conv => lhs; simp) (by conv => lhs; simp) (by first | rfl | simp [inlT, inlV]) ?_ | refine RetNf.dataE rfl (by conv => lhs; simp) (by conv => lhs; simp) (by first | rfl | simp [inlT, inlV]) ?_)
  all_goals (first | rfl | (simp [nan64R]; done) | (simp_all [nan64R]; done) | (simp_all [nan64R]; omega))
noncomputable def nanR (x : Int) : AV := .bool false
noncomputable def nanS : SpecFn := mkS (fun p : Int => [.int .i64 p]) fun p => (nanR p, [])
theorem nan_eq (x : Int) : nanS [.int .i64 x] [] = some (nanR (x), []) :=
  mkS_eq (enc := fun p : Int => [.int .i64 p]) (res := fun p => (nanR p, [])) (fun x y h => by
    obtain ⟨h0, h⟩ := List.cons.inj h
    have e0 := AVi h0
    subst e0
    rfl) (x)
def cmpI (a b : Int) : Int := if a < b then -1 else if b < a then 1 else 0
@[simp] theorem cmpI_eq0 (a b : Int) : (cmpI a b == 0) = decide (a = b) := by
  unfold cmpI
  split
  · rw [decide_eq_false (by omega)]; rfl
  · split
    · rw [decide_eq_false (by omega)]; rfl
    · rw [decide_eq_true (by omega)]; rfl
@[simp] theorem cmpI_lt0 (a b : Int) : (cmpI a b < 0) ↔ a < b := by
  unfold cmpI
  split
  · simp [*]
  · split <;> simp <;> omega
noncomputable def cmp64R (x : Int) (y : Int) : AV := .int .i64 (cmpI x y)
noncomputable def cmp64S : SpecFn := mkS (fun p : Int × Int => [.int .u64 p.1, .int .u64 p.2]) fun p => (cmp64R p.1 p.2, [])
theorem cmp64_eq (x : Int) (y : Int) : cmp64S [.int .u64 x, .int .u64 y] [] = some (cmp64R (x) (y), []) :=
  mkS_eq (enc := fun p : Int × Int => [.int .u64 p.1, .int .u64 p.2]) (res := fun p => (cmp64R p.1 p.2, [])) (fun x y h => by
    obtain ⟨a0, a1⟩ := x
    obtain ⟨b0, b1⟩ := y
    obtain ⟨h0, h⟩ := List.cons.inj h
    obtain ⟨h1, h⟩ := List.cons.inj h
    have e0 := AVi h0
    subst e0
    have e1 := AVi h1
    subst e1
    rfl) (x, y)
noncomputable def cmp64_ok_specs : NL Spec := [(204, ⟨1, nan64S⟩)]
theorem cmp64_ok_specs_ok : ∀ p ∈ cmp64_ok_specs, FnC Try.prog p.1 p.2.fn := by
  simp only [cmp64_ok_specs, List.mem_cons, List.not_mem_nil, or_false]
  rintro p rfl
  · exact nan64_ok
attribute [local simp] cmp64_ok_specs nan64_eq
theorem cmp64_ok : FnC Try.prog 154 cmp64S := by
  refine FnC.walk 154 (fn := Try.f154) Try.func154 rfl (by kernel_rfl) fun p => ?_
  obtain ⟨x, y⟩ := p
  change W _ (Ret _ _ (cmp64R (x) (y)) []) _ _ ⟨20, [(0, .int .u64 x), (1, .int .u64 y)], []⟩
  repeat' (first | refine ZV ?_ | refine ZB tm cmp64_ok_specs_ok ?_ | refine ZH (fun hb => ?_) (fun hb => ?_) | refine ZJ (by conv => lhs; simp [nan64R]) ?_ | refine ZA (fun hb => ?_) (fun hb => ?_))
  all_goals (first | refine Ret.dataE rfl (by conv => lhs; simp) (by conv => lhs; simp) (by first | rfl | simp [inlT, inlV]) ?_ | refine RetNf.dataE rfl (by conv => lhs; simp) (by conv => lhs; simp) (by first | rfl | simp [inlT, inlV]) ?_)
  all_goals (first | rfl | (simp [cmp64R, cmpI]; done) | (simp_all [cmp64R, cmpI]; done) | (simp_all [cmp64R, cmpI]; omega))
noncomputable def cmp_ok_specs : NL Spec := [(203, ⟨1, nanS⟩)]
attribute [local simp] cmp_ok_specs nan_eq
attribute [-simp] mkv
attribute [local simp] mkv_hd hdA_cons hdA_ob hdA_ob'
noncomputable def wt1R (t : Tok) (y : Int) : AV := .int .i64 (cmpI t.id y)
noncomputable def wt1S : SpecFn := mkS (fun p : Tok × Int => [.agg p.1.c, .int .u64 p.2]) fun p => (wt1R p.1 p.2, [])
theorem wt1_eq (t1 : Int) (t2 : Int) (to : Ob) (t3 : Int) (t4 : Bool) (t5 : Bool) (y : Int) : wt1S [.agg (.int .u64 t1 :: .int .i64 t2 :: (to.cells ++ [.int .i64 t3, .bool t4, .bool t5])), .int .u64 y] [] = some (wt1R ((⟨t1, t2, to, t3, t4, t5⟩ : Tok)) (y), []) :=
  mkS_eq (enc := fun p : Tok × Int => [.agg p.1.c, .int .u64 p.2]) (res := fun p => (wt1R p.1 p.2, [])) (fun x y h => by
    obtain ⟨a0, a1⟩ := x
    obtain ⟨b0, b1⟩ := y
    obtain ⟨h0, h⟩ := List.cons.inj h
    obtain ⟨h1, h⟩ := List.cons.inj h
    have e0 := Tok.c_inj (AVg h0)
    subst e0
    have e1 := AVi h1
    subst e1
    rfl) ((⟨t1, t2, to, t3, t4, t5⟩ : Tok), y)
noncomputable def wt1_ok_specs : NL Spec := [(154, ⟨1, cmp64S⟩)]
attribute [local simp] wt1_ok_specs cmp64_eq
/-! ### Searching -/
theorem half {lo hi : Nat} (h : lo + hi ≤ 9223372036854775807) : IntKind.i64.wrap ((IntKind.u64.wrap (IntKind.i64.wrap ((lo : Int) + (hi : Int)))).fdiv (2 ^ min 1 IntKind.u64.bits)) = (((lo + hi) / 2 : Nat) : Int) := by
  have h1 : IntKind.i64.wrap ((lo : Int) + (hi : Int)) = (lo : Int) + (hi : Int) := w64 (by omega) (by omega)
  have h2 : IntKind.u64.wrap ((lo : Int) + (hi : Int)) = (lo : Int) + (hi : Int) := by
    simp only [IntKind.wrap, IntKind.bits, IntKind.signed]
    simp
    omega
  have h3 : ((lo : Int) + (hi : Int)).fdiv (2 ^ min 1 IntKind.u64.bits) = (((lo + hi) / 2 : Nat) : Int) := by
    rw [Int.fdiv_eq_ediv_of_nonneg _ (by decide)]
    show ((lo : Int) + (hi : Int)) / 2 = _
    omega
  rw [h1, h2, h3]
  exact w64 (by omega) (by omega)
def bsF (c : Nat → Bool) (lo hi : Nat) : Nat :=
  if h : lo < hi then (if c ((lo + hi) / 2) then bsF c ((lo + hi) / 2 + 1) hi else bsF c lo ((lo + hi) / 2)) else lo
termination_by hi - lo
decreasing_by all_goals omega
theorem bsF_lt {c : Nat → Bool} {lo hi : Nat} (h : lo < hi) : bsF c lo hi = if c ((lo + hi) / 2) then bsF c ((lo + hi) / 2 + 1) hi else bsF c lo ((lo + hi) / 2) := by
  rw [bsF, dif_pos h]
theorem bsF_ge {c : Nat → Bool} {lo hi : Nat} (h : ¬ lo < hi) : bsF c lo hi = lo := by
  rw [bsF, dif_neg h]
noncomputable def bst_ok_specs : NL Spec := [(153, ⟨1, wt1S⟩)]
attribute [local simp] bst_ok_specs wt1_eq
end Go.Abs.Na
namespace Go.Proofs
open Go.Shelf
def Try.lays189_ren : Go.Shelf.Ren := ⟨fun | 189 => 215 | 125 => 233 | 257 => 232 | 128 => 249 | 129 => 250 | 294 => 240 | 295 => 241 | 296 => 242 | 297 => 243 | 298 => 244 | 299 => 245 | 216 => 246 | 300 => 247 | 301 => 248 | 328 => 252 | 329 => 253 | 330 => 254 | 331 => 255 | 332 => 256 | 215 => 203 | 343 => 257 | n => n, fun | 28 => 70 | 3 => 3 | 46 => 196 | 0 => 0 | 51 => 270 | 53 => 30 | 4 => 4 | 183 => 264 | 182 => 263 | 131 => 179 | 5 => 5 | 9 => 9 | 218 => 273 | 222 => 277 | 228 => 279 | 229 => 280 | n => n, fun | n => n⟩
theorem Try.lays189 : Go.Proofs.Lays.n189 Try.prog Try.lays189_ren := {
  mixed := by kernel_rfl
  f125 := Try.func233.trans (congrArg some (by kernel_rfl))
  f128 := Try.func249.trans (congrArg some (by kernel_rfl))
  f129 := Try.func250.trans (congrArg some (by kernel_rfl))
  f189 := Try.func215.trans (congrArg some (by kernel_rfl))
  f215 := Try.func203.trans (congrArg some (by kernel_rfl))
  f216 := Try.func246.trans (congrArg some (by kernel_rfl))
  f257 := Try.func232.trans (congrArg some (by kernel_rfl))
  f294 := Try.func240.trans (congrArg some (by kernel_rfl))
  f295 := Try.func241.trans (congrArg some (by kernel_rfl))
  f296 := Try.func242.trans (congrArg some (by kernel_rfl))
  f297 := Try.func243.trans (congrArg some (by kernel_rfl))
  f298 := Try.func244.trans (congrArg some (by kernel_rfl))
  f299 := Try.func245.trans (congrArg some (by kernel_rfl))
  f300 := Try.func247.trans (congrArg some (by kernel_rfl))
  f301 := Try.func248.trans (congrArg some (by kernel_rfl))
  f328 := Try.func252.trans (congrArg some (by kernel_rfl))
  f329 := Try.func253.trans (congrArg some (by kernel_rfl))
  f330 := Try.func254.trans (congrArg some (by kernel_rfl))
  f331 := Try.func255.trans (congrArg some (by kernel_rfl))
  f332 := Try.func256.trans (congrArg some (by kernel_rfl))
  f343 := Try.func257.trans (congrArg some (by kernel_rfl))
  t0 := Try.underlying0
  a0 := Try.isAgg0
  z0 := Try.sizeOf0
  v0 := Try.zeroValue0
  t3 := Try.underlying3
  a3 := Try.isAgg3
  z3 := Try.sizeOf3
  v3 := Try.zeroValue3
  t4 := Try.underlying4
  a4 := Try.isAgg4
  z4 := Try.sizeOf4
  v4 := Try.zeroValue4
  t5 := Try.underlying5
  a5 := Try.isAgg5
  z5 := Try.sizeOf5
  v5 := Try.zeroValue5
  t9 := Try.underlying9
  a9 := Try.isAgg9
  z9 := Try.sizeOf9
  v9 := Try.zeroValue9
  t28 := Try.underlying70
  a28 := Try.isAgg70
  z28 := Try.sizeOf70
  v28 := Try.zeroValue70
  t46 := Try.underlying196
  a46 := Try.isAgg196
  z46 := Try.sizeOf196
  v46 := Try.zeroValue196
  t51 := Try.underlying270
  a51 := Try.isAgg270
  z51 := Try.sizeOf270
  v51 := Try.zeroValue270
  t53 := Try.underlying30
  a53 := Try.isAgg30
  z53 := Try.sizeOf30
  v53 := Try.zeroValue30
  t131 := Try.underlying179
  a131 := Try.isAgg179
  z131 := Try.sizeOf179
  v131 := Try.zeroValue179
  t182 := Try.underlying263
  a182 := Try.isAgg263
  z182 := Try.sizeOf263
  v182 := Try.zeroValue263
  t183 := Try.underlying264
  a183 := Try.isAgg264
  z183 := Try.sizeOf264
  v183 := Try.zeroValue264
  t218 := Try.underlying273
  a218 := Try.isAgg273
  z218 := Try.sizeOf273
  v218 := Try.zeroValue273
  t222 := Try.underlying277
  a222 := Try.isAgg277
  z222 := Try.sizeOf277
  v222 := Try.zeroValue277
  t228 := Try.underlying279
  a228 := Try.isAgg279
  z228 := Try.sizeOf279
  v228 := Try.zeroValue279
  t229 := Try.underlying280
  a229 := Try.isAgg280
  z229 := Try.sizeOf280
  v229 := Try.zeroValue280 }
open Go.Sort Go.RowKit in
theorem Try.slices_Sort_int (blk off cap : Nat) (zs : List Int) (w : World) (hH : Holds (Value.int .i64) w blk off zs.toArray) (hblk : blk < w.heap.size) (hsz : zs.length < 4611686018427387904) :
    Calls Try.prog 215 #[.slice (some ⟨blk, off, none⟩) zs.length cap] w fun e w' =>
      e = .returned (.tuple #[]) ∧ ∃ n os, w' = grow (putRow (Value.int .i64) (Sort.ahead w n) blk off (zs.mergeSort fun x y => decide (x ≤ y)).toArray) os := Any.slices_Sort_int Try.lays189 blk off cap zs w hH hblk hsz
end Go.Proofs
namespace Go.Abs.Dir
set_option linter.unusedSimpArgs false
set_option linter.unusedVariables false
/-- An entry; objects are of some type. -/
structure Ent (O : Type) where
  id : Int
  owner : Int
  readers : List Int
  obj : O
  waiting : List Int
  queue : List (Int × Int)
/-- Messages: a demand, or a grant. -/
inductive Mg (O : Type) where
  | rev (to : Int)
  | grant (to mode : Int) (obj : O)
def oth (l : List Int) (n : Int) : List Int := l.filter (fun x => x != n)
def ins (n : Int) : List Int → List Int
  | [] => [n]
  | x :: r => if x < n then x :: ins n r else n :: x :: r
variable {O : Type}
/-- Going on with a queue while nobody is waited for. -/
def goQ (z : O) : List (Int × Int) → Int → List Int → O → List (Mg O) × Int × List Int × O × List Int × List (Int × Int)
  | [], ow, rd, ob => ([], ow, rd, ob, [], [])
  | (n, m) :: q, ow, rd, ob =>
    if ow ≠ -1 then ([.rev ow], ow, rd, ob, [ow], (n, m) :: q)
    else if m = 1 then
      let r := goQ z q ow (ins n (oth rd n)) ob
      (.grant n m ob :: r.1, r.2)
    else if oth rd n ≠ [] then ((oth rd n).map .rev, ow, rd, ob, oth rd n, (n, m) :: q)
    else
      let r := goQ z q n [] z
      (.grant n m ob :: r.1, r.2)
def goOn (z : O) (e : Ent O) : List (Mg O) × Ent O :=
  if e.waiting = [] then
    let r := goQ z e.queue e.owner e.readers e.obj
    (r.1, { id := e.id, owner := r.2.1, readers := r.2.2.1, obj := r.2.2.2.1, waiting := r.2.2.2.2.1, queue := r.2.2.2.2.2 })
  else ([], e)
def retE (z : O) (e : Ent O) (n : Int) (o : O) : List (Mg O) × Ent O :=
  goOn z { e with owner := (if e.owner = n then -1 else e.owner), obj := (if e.owner = n then o else e.obj), readers := (if e.owner = n then e.readers else oth e.readers n), waiting := oth e.waiting n }
end Go.Abs.Dir
