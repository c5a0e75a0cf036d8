/- Whether an object is zero. Conditions: none. -/
import Derived.Test.YtmcbpehpogjmoaaNp1
namespace Go.Abs.Np
open Go Go.Proofs Go.Abs
set_option maxRecDepth 100000
set_option maxHeartbeats 4000000
set_option linter.unusedSimpArgs false
set_option linter.unusedVariables false
section
def zc : AV → Bool
 | .int _ n=>n == 0
 | .list _ r=>r.length == 0
 | _=>false
def cpuZ (a b c d e f g h i : Int) : Bool := a == 0 && (b == 0 && (c == 0 && (d == 0 && (e == 0 && (f == 0 && (g == 0 && (h == 0 && i == 0)))))))
theorem tcI : Try.prog.cellsOf 2 = 1 := by kernel_rfl
theorem tiI : (Try.prog.info? 2).isSome = true := by kernel_rfl
theorem tcJ : Try.prog.cellsOf 3 = 1 := by kernel_rfl
theorem tiJ : (Try.prog.info? 3).isSome = true := by kernel_rfl
theorem tgC : Try.prog.eqGuardType Try.prog.depth 50 = false := by kernel_rfl
theorem thC : Try.prog.stoodInHeld 50 = false := by kernel_rfl
theorem tgE : Try.prog.eqGuardType Try.prog.depth 57 = false := by kernel_rfl
theorem eqCpu (a b c d e f g h i a' b' c' d' e' f' g' h' i' : Int) : eqV Try.prog 9 50 (.agg [.int .i64 a, .int .i64 b, .int .i64 c, .int .i64 d, .int .i64 e, .int .i64 f, .int .i64 g, .int .i64 h, .int .i64 i]) (.agg [.int .i64 a', .int .i64 b', .int .i64 c', .int .i64 d', .int .i64 e', .int .i64 f', .int .i64 g', .int .i64 h', .int .i64 i']) =
   some (a == a' && (b == b' && (c == c' && (d == d' && (e == e' && (f == f' && (g == g' && (h == h' && i == i')))))))):=by
 simp [eqV,Try.underlying50,Try.underlying48,Try.underlying2,Try.underlying3,thC,eqFs,eqIs,partV,List.range,List.range.loop,tcI,tiI]
theorem eqEnds (a b a' b' : Int) : eqV Try.prog 9 57 (.agg [.int .i64 a, .int .i64 b]) (.agg [.int .i64 a', .int .i64 b']) = some (a == a' && b == b') := by
 simp [eqV,Try.underlying57,Try.underlying3,eqFs,eqIs,partV,List.range,List.range.loop,tcJ,tiJ]
attribute [local simp] instA eqlA tgC tgE eqCpu eqEnds
def restZ : List AV → Bool
 | [.int .i64 p0, .int .u64 p1, .list 1 p2, .list 4 q0, .list 1 q1, .int .i64 q2, .int .i64 z0, .int .i64 z1, .int .i64 z2, .int .i64 z3, .int .i64 z4, .int .i64 z5, .int .i64 z6, .int .i64 z7, .int .i64 z8, .list 2 p5, .list 4 p6, .int .i64 p7, .int .i64 p8, .int .i64 p9]=>((p2.length : Int) + q0.length + q1.length + p5.length + p6.length == 0) && ((q2 == 0) && (cpuZ z0 z1 z2 z3 z4 z5 z6 z7 z8 && ((p7 == 0) && (p8 == 0))))
 | _=>false
noncomputable def rsS : SpecFn := mkS (fun d : Prc => [.agg d.cells]) fun d => (.bool (restZ d.cells),[])
theorem rsS_eq (d : Prc) : rsS [.agg d.cells] [] = some (.bool (restZ d.cells),[]) := mkS_eq (enc := fun d : Prc => [AV.agg d.cells]) tdInj d
theorem rs_ok : FnC Try.prog 92 rsS := by
 refine FnC.walk 92 (fn:=Try.f92) Try.func92 rfl (by kernel_rfl) fun d=>?_
 obtain ⟨cs,ty,bd⟩:=d
 obtain ⟨p0,p1,p2,p3,p4,p5,p6,p7,p8,p9,rfl, -, -, -,h3,h4, -, -, -, -, -⟩:=viewProcess ty
 obtain ⟨q0,q1,q2,rfl, -, -, -⟩:=viewProgram h3
 obtain ⟨z0,z1,z2,z3,z4,z5,z6,z7,z8,rfl, -⟩:=viewCPU h4
 simp only [List.cons_append,List.nil_append,bdL,bdV,Bool.and_eq_true,decide_eq_true_eq,Bool.and_true,Bool.true_and,true_and] at bd
 change W _ (Ret _ _ (.bool (((p2.length : Int) + q0.length + q1.length + p5.length + p6.length == 0) && ((q2 == 0) && (cpuZ z0 z1 z2 z3 z4 z5 z6 z7 z8 && ((p7 == 0) && (p8 == 0)))))) []) _ _ ⟨47,[(0, .agg [.int .i64 p0, .int .u64 p1, .list 1 p2, .list 4 q0, .list 1 q1, .int .i64 q2, .int .i64 z0, .int .i64 z1, .int .i64 z2, .int .i64 z3, .int .i64 z4, .int .i64 z5, .int .i64 z6, .int .i64 z7, .int .i64 z8, .list 2 p5, .list 4 p6, .int .i64 p7, .int .i64 p8, .int .i64 p9])],[]⟩
 clear h3 h4
 have w1 : IntKind.i64.wrap ((p2.length : Int) + q0.length) = (p2.length : Int) + q0.length:=w64 (by omega) (by omega)
 have w2 : IntKind.i64.wrap ((p2.length : Int) + q0.length + q1.length) = (p2.length : Int) + q0.length + q1.length:=w64 (by omega) (by omega)
 have w3 : IntKind.i64.wrap ((p2.length : Int) + q0.length + q1.length + p5.length) = (p2.length : Int) + q0.length + q1.length + p5.length:=w64 (by omega) (by omega)
 obtain ⟨n,hn⟩ : ∃ n : Int,(p2.length : Int) + q0.length + q1.length + p5.length + p6.length = n:=⟨_,rfl⟩
 have w4 : IntKind.i64.wrap ((p2.length : Int) + q0.length + q1.length + p5.length + p6.length) = n:=by rw [← hn]; exact w64 (by omega) (by omega)
 rw [hn]
 unfold cpuZ
 cases h1 : (n == 0) with
 | false =>
   repeat (first | refine ZS ?_ | refine ZK tm no_specs rfl (by conv=>lhs; simp [w1,w2,w3,w4,h1]) fun _=>?_ | refine ZL tm no_specs rfl (by conv=>lhs; simp [w1,w2,w3,w4,h1]) fun _=>?_)
   simp only [h1,Bool.true_and,Bool.false_and,Bool.and_false]
   exact Yr
 | true =>
   cases h2 : (q2 == 0) with
   | false =>
     repeat (first | refine ZS ?_ | refine ZK tm no_specs rfl (by conv=>lhs; simp [w1,w2,w3,w4,h1,h2]) fun _=>?_ | refine ZL tm no_specs rfl (by conv=>lhs; simp [w1,w2,w3,w4,h1,h2]) fun _=>?_)
     simp only [h1,h2,Bool.true_and,Bool.false_and,Bool.and_false]
     exact Yr
   | true =>
     cases h3 : (z0 == 0 && (z1 == 0 && (z2 == 0 && (z3 == 0 && (z4 == 0 && (z5 == 0 && (z6 == 0 && (z7 == 0 && z8 == 0)))))))) with
     | false =>
       repeat (first | refine ZS ?_ | refine ZK tm no_specs rfl (by conv=>lhs; simp [w1,w2,w3,w4,h1,h2,h3]) fun _=>?_ | refine ZL tm no_specs rfl (by conv=>lhs; simp [w1,w2,w3,w4,h1,h2,h3]) fun _=>?_)
       simp only [h1,h2,h3,Bool.true_and,Bool.false_and,Bool.and_false]
       exact Yr
     | true =>
       cases h4 : (p7 == 0) with
       | false =>
         repeat (first | refine ZS ?_ | refine ZK tm no_specs rfl (by conv=>lhs; simp [w1,w2,w3,w4,h1,h2,h3,h4]) fun _=>?_ | refine ZL tm no_specs rfl (by conv=>lhs; simp [w1,w2,w3,w4,h1,h2,h3,h4]) fun _=>?_)
         simp only [h1,h2,h3,h4,Bool.true_and,Bool.false_and,Bool.and_false]
         exact Yr
       | true =>
         repeat (first | refine ZS ?_ | refine ZK tm no_specs rfl (by conv=>lhs; simp [w1,w2,w3,w4,h1,h2,h3,h4]) fun _=>?_ | refine ZL tm no_specs rfl (by conv=>lhs; simp [w1,w2,w3,w4,h1,h2,h3,h4]) fun _=>?_)
         simp only [h1,h2,h3,h4,Bool.true_and,Bool.and_true]
         exact Yr
def noneZ : List AV → Bool
 | [.int .i64 p0, .int .u64 p1, .list 1 p2, .list 4 q0, .list 1 q1, .int .i64 q2, .int .i64 z0, .int .i64 z1, .int .i64 z2, .int .i64 z3, .int .i64 z4, .int .i64 z5, .int .i64 z6, .int .i64 z7, .int .i64 z8, .list 2 p5, .list 4 p6, .int .i64 p7, .int .i64 p8, .int .i64 p9]=>(p0 == 0) && ((p1 == 0) && ((p9 == 0) && restZ [.int .i64 p0, .int .u64 p1, .list 1 p2, .list 4 q0, .list 1 q1, .int .i64 q2, .int .i64 z0, .int .i64 z1, .int .i64 z2, .int .i64 z3, .int .i64 z4, .int .i64 z5, .int .i64 z6, .int .i64 z7, .int .i64 z8, .list 2 p5, .list 4 p6, .int .i64 p7, .int .i64 p8, .int .i64 p9]))
 | _=>false
noncomputable def nnS : SpecFn := mkS (fun d : Prc => [.agg d.cells]) fun d => (.bool (noneZ d.cells),[])
theorem nnS_eq (d : Prc) : nnS [.agg d.cells] [] = some (.bool (noneZ d.cells),[]) := mkS_eq (enc := fun d : Prc => [AV.agg d.cells]) tdInj d
noncomputable def nn_specs : NL Spec := [(92,⟨1,rsS⟩)]
theorem nn_specs_ok : ∀ p ∈ nn_specs,FnC Try.prog p.1 p.2.fn := by
 simp only [nn_specs,List.mem_cons,List.not_mem_nil,or_false]
 rintro p rfl
 exact rs_ok
attribute [local simp] nn_specs
theorem nn_ok : FnC Try.prog 88 nnS := by
 refine FnC.walk 88 (fn:=Try.f88) Try.func88 rfl (by kernel_rfl) fun d=>?_
 obtain ⟨cs,ty,bd⟩:=d
 have hR:=rsS_eq ⟨cs,ty,bd⟩
 obtain ⟨p0,p1,p2,p3,p4,p5,p6,p7,p8,p9,rfl, -, -, -,h3,h4, -, -, -, -, -⟩:=viewProcess ty
 obtain ⟨q0,q1,q2,rfl, -, -, -⟩:=viewProgram h3
 obtain ⟨z0,z1,z2,z3,z4,z5,z6,z7,z8,rfl, -⟩:=viewCPU h4
 simp only [List.cons_append,List.nil_append] at hR
 change W _ (Ret _ _ (.bool ((p0 == 0) && ((p1 == 0) && ((p9 == 0) && restZ [.int .i64 p0, .int .u64 p1, .list 1 p2, .list 4 q0, .list 1 q1, .int .i64 q2, .int .i64 z0, .int .i64 z1, .int .i64 z2, .int .i64 z3, .int .i64 z4, .int .i64 z5, .int .i64 z6, .int .i64 z7, .int .i64 z8, .list 2 p5, .list 4 p6, .int .i64 p7, .int .i64 p8, .int .i64 p9])))) []) _ _ ⟨20,[(0, .agg [.int .i64 p0, .int .u64 p1, .list 1 p2, .list 4 q0, .list 1 q1, .int .i64 q2, .int .i64 z0, .int .i64 z1, .int .i64 z2, .int .i64 z3, .int .i64 z4, .int .i64 z5, .int .i64 z6, .int .i64 z7, .int .i64 z8, .list 2 p5, .list 4 p6, .int .i64 p7, .int .i64 p8, .int .i64 p9])],[]⟩
 clear h3 h4
 generalize restZ [.int .i64 p0, .int .u64 p1, .list 1 p2, .list 4 q0, .list 1 q1, .int .i64 q2, .int .i64 z0, .int .i64 z1, .int .i64 z2, .int .i64 z3, .int .i64 z4, .int .i64 z5, .int .i64 z6, .int .i64 z7, .int .i64 z8, .list 2 p5, .list 4 p6, .int .i64 p7, .int .i64 p8, .int .i64 p9] = rz at *
 cases h1 : (p0 == 0) with
 | false =>
   repeat (first | refine ZS ?_ | refine ZK tm nn_specs_ok rfl (by conv=>lhs; simp [hR,h1]) fun _=>?_ | refine ZL tm nn_specs_ok rfl (by conv=>lhs; simp [hR,h1]) fun _=>?_)
   simp only [h1,Bool.true_and,Bool.false_and,Bool.and_false]
   exact Yr
 | true =>
   cases h2 : (p1 == 0) with
   | false =>
     repeat (first | refine ZS ?_ | refine ZK tm nn_specs_ok rfl (by conv=>lhs; simp [hR,h1,h2]) fun _=>?_ | refine ZL tm nn_specs_ok rfl (by conv=>lhs; simp [hR,h1,h2]) fun _=>?_)
     simp only [h1,h2,Bool.true_and,Bool.false_and,Bool.and_false]
     exact Yr
   | true =>
     cases h3 : (p9 == 0) with
     | false =>
       repeat (first | refine ZS ?_ | refine ZK tm nn_specs_ok rfl (by conv=>lhs; simp [hR,h1,h2,h3]) fun _=>?_ | refine ZL tm nn_specs_ok rfl (by conv=>lhs; simp [hR,h1,h2,h3]) fun _=>?_)
       simp only [h1,h2,h3,Bool.true_and,Bool.false_and,Bool.and_false]
       exact Yr
     | true =>
       repeat (first | refine ZS ?_ | refine ZK tm nn_specs_ok rfl (by conv=>lhs; simp [hR,h1,h2,h3]) fun _=>?_ | refine ZL tm nn_specs_ok rfl (by conv=>lhs; simp [hR,h1,h2,h3]) fun _=>?_)
       simp only [h1,h2,h3,Bool.true_and,Bool.and_true]
       exact Yr
def blankZ : List AV → Bool
 | [.int .i64 p0, .int .u64 p1, .list 1 p2, .list 4 q0, .list 1 q1, .int .i64 q2, .int .i64 z0, .int .i64 z1, .int .i64 z2, .int .i64 z3, .int .i64 z4, .int .i64 z5, .int .i64 z6, .int .i64 z7, .int .i64 z8, .list 2 p5, .list 4 p6, .int .i64 p7, .int .i64 p8, .int .i64 p9]=>(p0 == 0) && ((p1 == 0) && (((p2.length : Int) == 0) && (((q0.length : Int) == 0) && (((q1.length : Int) == 0) && ((q2 == 0) && (cpuZ z0 z1 z2 z3 z4 z5 z6 z7 z8 && (((p5.length : Int) == 0) && (((p6.length : Int) == 0) && ((p7 == 0) && ((p8 == 0) && (p9 == 0)))))))))))
 | _=>false
theorem blankZ_eq {cs : List AV} (ty : TyR Try.prog 8 54 cs) : blankZ cs = noneZ cs := by
 obtain ⟨p0,p1,p2,p3,p4,p5,p6,p7,p8,p9,rfl, -, -, -,h3,h4, -, -, -, -, -⟩:=viewProcess ty
 obtain ⟨q0,q1,q2,rfl, -, -, -⟩:=viewProgram h3
 obtain ⟨z0,z1,z2,z3,z4,z5,z6,z7,z8,rfl, -⟩:=viewCPU h4
 simp only [List.cons_append,List.nil_append,blankZ,noneZ,restZ]
 rw [Bool.eq_iff_iff]
 simp only [Bool.and_eq_true,beq_iff_eq]
 constructor
 · rintro ⟨a1,a2,a3,a4,a5,a6,a7,a8,a9,a10,a11,a12⟩
   exact ⟨a1,a2,a12,by omega,a6,a7,a10,a11⟩
 · rintro ⟨a1,a2,a12,a3,a6,a7,a10,a11⟩
   exact ⟨a1,a2,by omega,by omega,by omega,a6,a7,by omega,by omega,a10,a11,a12⟩
theorem bl_ok : FnC Try.prog 90 nnS := by
 refine FnC.walk 90 (fn:=Try.f90) Try.func90 rfl (by kernel_rfl) fun d=>?_
 obtain ⟨cs,ty,bd⟩:=d
 dsimp only
 rw [← blankZ_eq ty]
 obtain ⟨p0,p1,p2,p3,p4,p5,p6,p7,p8,p9,rfl, -, -, -,h3,h4, -, -, -, -, -⟩:=viewProcess ty
 obtain ⟨q0,q1,q2,rfl, -, -, -⟩:=viewProgram h3
 obtain ⟨z0,z1,z2,z3,z4,z5,z6,z7,z8,rfl, -⟩:=viewCPU h4
 change W _ (Ret _ _ (.bool ((p0 == 0) && ((p1 == 0) && (((p2.length : Int) == 0) && (((q0.length : Int) == 0) && (((q1.length : Int) == 0) && ((q2 == 0) && (cpuZ z0 z1 z2 z3 z4 z5 z6 z7 z8 && (((p5.length : Int) == 0) && (((p6.length : Int) == 0) && ((p7 == 0) && ((p8 == 0) && (p9 == 0))))))))))))) []) _ _ ⟨70,[(0, .agg [.int .i64 p0, .int .u64 p1, .list 1 p2, .list 4 q0, .list 1 q1, .int .i64 q2, .int .i64 z0, .int .i64 z1, .int .i64 z2, .int .i64 z3, .int .i64 z4, .int .i64 z5, .int .i64 z6, .int .i64 z7, .int .i64 z8, .list 2 p5, .list 4 p6, .int .i64 p7, .int .i64 p8, .int .i64 p9])],[]⟩
 unfold cpuZ
 cases h1 : (p0 == 0) with
 | false =>
   repeat (first | refine ZS ?_ | refine ZK tm no_specs rfl (by conv=>lhs; simp [h1]) fun _=>?_ | refine ZL tm no_specs rfl (by conv=>lhs; simp [h1]) fun _=>?_)
   simp only [h1,Bool.true_and,Bool.false_and,Bool.and_false]
   exact Yr
 | true =>
   cases h2 : (p1 == 0) with
   | false =>
     repeat (first | refine ZS ?_ | refine ZK tm no_specs rfl (by conv=>lhs; simp [h1,h2]) fun _=>?_ | refine ZL tm no_specs rfl (by conv=>lhs; simp [h1,h2]) fun _=>?_)
     simp only [h1,h2,Bool.true_and,Bool.false_and,Bool.and_false]
     exact Yr
   | true =>
     cases h3 : ((p2.length : Int) == 0) with
     | false =>
       repeat (first | refine ZS ?_ | refine ZK tm no_specs rfl (by conv=>lhs; simp [h1,h2,h3]) fun _=>?_ | refine ZL tm no_specs rfl (by conv=>lhs; simp [h1,h2,h3]) fun _=>?_)
       simp only [h1,h2,h3,Bool.true_and,Bool.false_and,Bool.and_false]
       exact Yr
     | true =>
       cases h4 : ((q0.length : Int) == 0) with
       | false =>
         repeat (first | refine ZS ?_ | refine ZK tm no_specs rfl (by conv=>lhs; simp [h1,h2,h3,h4]) fun _=>?_ | refine ZL tm no_specs rfl (by conv=>lhs; simp [h1,h2,h3,h4]) fun _=>?_)
         simp only [h1,h2,h3,h4,Bool.true_and,Bool.false_and,Bool.and_false]
         exact Yr
       | true =>
         cases h5 : ((q1.length : Int) == 0) with
         | false =>
           repeat (first | refine ZS ?_ | refine ZK tm no_specs rfl (by conv=>lhs; simp [h1,h2,h3,h4,h5]) fun _=>?_ | refine ZL tm no_specs rfl (by conv=>lhs; simp [h1,h2,h3,h4,h5]) fun _=>?_)
           simp only [h1,h2,h3,h4,h5,Bool.true_and,Bool.false_and,Bool.and_false]
           exact Yr
         | true =>
           cases h6 : (q2 == 0) with
           | false =>
             repeat (first | refine ZS ?_ | refine ZK tm no_specs rfl (by conv=>lhs; simp [h1,h2,h3,h4,h5,h6]) fun _=>?_ | refine ZL tm no_specs rfl (by conv=>lhs; simp [h1,h2,h3,h4,h5,h6]) fun _=>?_)
             simp only [h1,h2,h3,h4,h5,h6,Bool.true_and,Bool.false_and,Bool.and_false]
             exact Yr
           | true =>
             cases h7 : (z0 == 0 && (z1 == 0 && (z2 == 0 && (z3 == 0 && (z4 == 0 && (z5 == 0 && (z6 == 0 && (z7 == 0 && z8 == 0)))))))) with
             | false =>
               repeat (first | refine ZS ?_ | refine ZK tm no_specs rfl (by conv=>lhs; simp [h1,h2,h3,h4,h5,h6,h7]) fun _=>?_ | refine ZL tm no_specs rfl (by conv=>lhs; simp [h1,h2,h3,h4,h5,h6,h7]) fun _=>?_)
               simp only [h1,h2,h3,h4,h5,h6,h7,Bool.true_and,Bool.false_and,Bool.and_false]
               exact Yr
             | true =>
               cases h8 : ((p5.length : Int) == 0) with
               | false =>
                 repeat (first | refine ZS ?_ | refine ZK tm no_specs rfl (by conv=>lhs; simp [h1,h2,h3,h4,h5,h6,h7,h8]) fun _=>?_ | refine ZL tm no_specs rfl (by conv=>lhs; simp [h1,h2,h3,h4,h5,h6,h7,h8]) fun _=>?_)
                 simp only [h1,h2,h3,h4,h5,h6,h7,h8,Bool.true_and,Bool.false_and,Bool.and_false]
                 exact Yr
               | true =>
                 cases h9 : ((p6.length : Int) == 0) with
                 | false =>
                   repeat (first | refine ZS ?_ | refine ZK tm no_specs rfl (by conv=>lhs; simp [h1,h2,h3,h4,h5,h6,h7,h8,h9]) fun _=>?_ | refine ZL tm no_specs rfl (by conv=>lhs; simp [h1,h2,h3,h4,h5,h6,h7,h8,h9]) fun _=>?_)
                   simp only [h1,h2,h3,h4,h5,h6,h7,h8,h9,Bool.true_and,Bool.false_and,Bool.and_false]
                   exact Yr
                 | true =>
                   cases h10 : (p7 == 0) with
                   | false =>
                     repeat (first | refine ZS ?_ | refine ZK tm no_specs rfl (by conv=>lhs; simp [h1,h2,h3,h4,h5,h6,h7,h8,h9,h10]) fun _=>?_ | refine ZL tm no_specs rfl (by conv=>lhs; simp [h1,h2,h3,h4,h5,h6,h7,h8,h9,h10]) fun _=>?_)
                     simp only [h1,h2,h3,h4,h5,h6,h7,h8,h9,h10,Bool.true_and,Bool.false_and,Bool.and_false]
                     exact Yr
                   | true =>
                     cases h11 : (p8 == 0) with
                     | false =>
                       repeat (first | refine ZS ?_ | refine ZK tm no_specs rfl (by conv=>lhs; simp [h1,h2,h3,h4,h5,h6,h7,h8,h9,h10,h11]) fun _=>?_ | refine ZL tm no_specs rfl (by conv=>lhs; simp [h1,h2,h3,h4,h5,h6,h7,h8,h9,h10,h11]) fun _=>?_)
                       simp only [h1,h2,h3,h4,h5,h6,h7,h8,h9,h10,h11,Bool.true_and,Bool.false_and,Bool.and_false]
                       exact Yr
                     | true =>
                       repeat (first | refine ZS ?_ | refine ZK tm no_specs rfl (by conv=>lhs; simp [h1,h2,h3,h4,h5,h6,h7,h8,h9,h10,h11]) fun _=>?_ | refine ZL tm no_specs rfl (by conv=>lhs; simp [h1,h2,h3,h4,h5,h6,h7,h8,h9,h10,h11]) fun _=>?_)
                       simp only [h1,h2,h3,h4,h5,h6,h7,h8,h9,h10,h11,Bool.true_and,Bool.and_true]
                       exact Yr
end
section
def mk (b : Bool) (f s : Int) : Int := if b = true then IntKind.i64.wrap (((s % 2 ^ IntKind.i64.bits).toNat ||| (f % 2 ^ IntKind.i64.bits).toNat : Nat) : Int) else s
def iB (n : Int) : ABlk := { gen := 0,kind := 2,elem := 3,size := 1,inl := false,rows := [[.int .i64 n]] }
def encMk (x : Int × Bool × Int) : List AV × List ABlk := ([.int .i64 x.1, .bool x.2.1, .ptr 0 0 0 0],[iB x.2.2])
theorem encMk_inj {β : Type} {f : Int × Bool × Int → β} : ∀ x y,encMk x = encMk y → f x = f y := fun x y h => by
 obtain ⟨a,b,c⟩:=x
 obtain ⟨a',b',c'⟩:=y
 simp only [encMk,iB,Prod.mk.injEq,List.cons.injEq,AV.int.injEq,AV.bool.injEq,ABlk.mk.injEq,true_and,and_true] at h
 obtain ⟨⟨rfl,rfl⟩,rfl⟩:=h
 rfl
noncomputable def mkkS : SpecFn := mkS2 encMk fun x => (.tup [],[iB (mk x.2.1 x.1 x.2.2)])
theorem mkkS_eq (f s : Int) (b : Bool) : mkkS [.int .i64 f, .bool b, .ptr 0 0 0 0] [{ gen := 0,kind := 2,elem := 3,size := 1,inl := false,rows := [[.int .i64 s]] }] = some (.tup [],[{ gen := 0,kind := 2,elem := 3,size := 1,inl := false,rows := [[.int .i64 (mk b f s)]] }]) := mkS2_eq (enc := encMk) encMk_inj (f,b,s)
attribute [local simp] instA
theorem mkk_ok : FnC Try.prog 87 mkkS := by
 refine FnC.walkB 87 (fn:=Try.f87) Try.func87 rfl (by kernel_rfl) (fun x b hb=>by simp [encMk] at hb; rw [hb]; rfl) fun x=>?_
 obtain ⟨f,b,s⟩:=x
 change W _ (RetB _ _ 1 (.tup []) [iB (mk b f s)]) _ _ ⟨9,[(0, .int .i64 f),(1, .bool b),(2, .ptr 0 0 0 0)],[(0,iB s)]⟩
 cases b with
 | false =>
   repeat (first | refine ZS ?_ | refine ZK tm no_specs rfl (by conv=>lhs; simp [iB]) fun _=>?_ | refine ZL tm no_specs rfl (by conv=>lhs; simp [iB]) fun _=>?_)
   simp only [mk,Bool.false_eq_true,if_false,iB]
   first | exact retE2_ok false (by conv => lhs; simp [retE2, frqT, frqV, frqVs, frqL, frq1, reachE, blkRefs, outE, nodupE, firstE, seqO, expB2, expF, refsB, refsL, AV.refs, AV.ren, renL, renB, List.range, List.range.loop, resVs, resV, pack]) | fail "no return here"
 | true =>
   repeat (first | refine ZS ?_ | refine ZK tm no_specs rfl (by conv=>lhs; simp [iB]) fun _=>?_ | refine ZL tm no_specs rfl (by conv=>lhs; simp [iB]) fun _=>?_)
   simp only [mk,if_true,iB]
   first | exact retE2_ok false (by conv => lhs; simp [retE2, frqT, frqV, frqVs, frqL, frq1, reachE, blkRefs, outE, nodupE, firstE, seqO, expB2, expF, refsB, refsL, AV.refs, AV.ren, renL, renB, List.range, List.range.loop, resVs, resV, pack]) | fail "no return here"
theorem mk_pos {b : Bool} {f s : Int} (h0 : 0 ≤ s) (h1 : s < 4611686018427387904) (f0 : 0 < f) (f1 : f < 4611686018427387904) : 0 ≤ mk b f s ∧ mk b f s < 4611686018427387904 ∧ (mk b f s = 0 ↔ b = false ∧ s = 0) := by
 cases b with
 | false=>simp [mk]; omega
 | true =>
   obtain ⟨n,rfl⟩:=Int.eq_ofNat_of_zero_le h0
   obtain ⟨m,rfl⟩:=Int.eq_ofNat_of_zero_le (Int.le_of_lt f0)
   have eb : (2 : Int) ^ IntKind.i64.bits = 18446744073709551616:=by decide
   have e1 : ((n : Int) % 2 ^ IntKind.i64.bits).toNat = n:=by rw [eb]; omega
   have e2 : ((m : Int) % 2 ^ IntKind.i64.bits).toNat = m:=by rw [eb]; omega
   have e4 : n ||| m < 2 ^ 62:=Nat.or_lt_two_pow (by omega) (by omega)
   have e5 : n ||| m ≠ 0:=fun h=>by
     have:=(Nat.or_eq_zero_iff.1 h).2
     omega
   simp only [mk,if_true,e1,e2]
   rw [w64 (by omega) (by omega)]
   refine ⟨by omega,by omega, ?_⟩
   simp
   omega
theorem fin_zero {s : Int} (h0 : 0 ≤ s) (h1 : s < 4611686018427387904) : IntKind.i64.wrap (max (s % 2 ^ IntKind.i64.bits) 0) = s := by
 have eb : (2 : Int) ^ IntKind.i64.bits = 18446744073709551616:=by decide
 rw [eb,show max (s % 18446744073709551616) 0 = s by omega]
 exact w64 (by omega) (by omega)
theorem marks (b1 b2 b3 b4 b5 b6 b7 b8 b9 b10 b11 b12 b13 : Bool) :
   0 ≤ mk b13 4096 (mk b12 2048 (mk b11 1024 (mk b10 512 (mk b9 256 (mk b8 128 (mk b7 64 (mk b6 32 (mk b5 16 (mk b4 8 (mk b3 4 (mk b2 2 (mk b1 1 0)))))))))))) ∧ mk b13 4096 (mk b12 2048 (mk b11 1024 (mk b10 512 (mk b9 256 (mk b8 128 (mk b7 64 (mk b6 32 (mk b5 16 (mk b4 8 (mk b3 4 (mk b2 2 (mk b1 1 0)))))))))))) < 4611686018427387904 ∧
   (mk b13 4096 (mk b12 2048 (mk b11 1024 (mk b10 512 (mk b9 256 (mk b8 128 (mk b7 64 (mk b6 32 (mk b5 16 (mk b4 8 (mk b3 4 (mk b2 2 (mk b1 1 0)))))))))))) = 0 ↔ b1 = false ∧ b2 = false ∧ b3 = false ∧ b4 = false ∧ b5 = false ∧ b6 = false ∧ b7 = false ∧ b8 = false ∧ b9 = false ∧ b10 = false ∧ b11 = false ∧ b12 = false ∧ b13 = false):=by
 obtain ⟨h1,h2,h3⟩:=mk_pos (b:=b1) (f:=1) (s:=0) (by omega) (by omega) (by omega) (by omega)
 obtain ⟨i1,i2,i3⟩:=mk_pos (b:=b2) (f:=2) h1 h2 (by omega) (by omega)
 obtain ⟨j1,j2,j3⟩:=mk_pos (b:=b3) (f:=4) i1 i2 (by omega) (by omega)
 obtain ⟨k1,k2,k3⟩:=mk_pos (b:=b4) (f:=8) j1 j2 (by omega) (by omega)
 obtain ⟨l1,l2,l3⟩:=mk_pos (b:=b5) (f:=16) k1 k2 (by omega) (by omega)
 obtain ⟨m1,m2,m3⟩:=mk_pos (b:=b6) (f:=32) l1 l2 (by omega) (by omega)
 obtain ⟨n1,n2,n3⟩:=mk_pos (b:=b7) (f:=64) m1 m2 (by omega) (by omega)
 obtain ⟨o1,o2,o3⟩:=mk_pos (b:=b8) (f:=128) n1 n2 (by omega) (by omega)
 obtain ⟨p1,p2,p3⟩:=mk_pos (b:=b9) (f:=256) o1 o2 (by omega) (by omega)
 obtain ⟨q1,q2,q3⟩:=mk_pos (b:=b10) (f:=512) p1 p2 (by omega) (by omega)
 obtain ⟨r1,r2,r3⟩:=mk_pos (b:=b11) (f:=1024) q1 q2 (by omega) (by omega)
 obtain ⟨s1,s2,s3⟩:=mk_pos (b:=b12) (f:=2048) r1 r2 (by omega) (by omega)
 obtain ⟨t1,t2,t3⟩:=mk_pos (b:=b13) (f:=4096) s1 s2 (by omega) (by omega)
 refine ⟨t1,t2, ?_⟩
 rw [t3,s3,r3,q3,p3,o3,n3,m3,l3,k3,j3,i3,h3]
 constructor
 · rintro ⟨a,b,c,d,e,f,g,h,i,j,k,l,m, -⟩
   exact ⟨m,l,k,j,i,h,g,f,e,d,c,b,a⟩
 · rintro ⟨m,l,k,j,i,h,g,f,e,d,c,b,a⟩
   exact ⟨a,b,c,d,e,f,g,h,i,j,k,l,m,rfl⟩
noncomputable def on_specs : NL Spec := [(88,⟨1,nnS⟩),(87,⟨3,mkkS⟩)]
theorem on_specs_ok : ∀ p ∈ on_specs,FnC Try.prog p.1 p.2.fn := by
 simp only [on_specs,List.mem_cons,List.not_mem_nil,or_false]
 rintro p (rfl | rfl)
 · exact nn_ok
 · exact mkk_ok
attribute [local simp] instA eqlA tgC tgE eqCpu eqEnds on_specs
def bareZ : List AV → Bool
 | .int .u64 x0 :: .int .i64 x1 :: .int .i64 x2 :: .int .i64 p0 :: .int .u64 p1 :: .list 1 p2 :: .list 4 q0 :: .list 1 q1 :: .int .i64 q2 :: .int .i64 z0 :: .int .i64 z1 :: .int .i64 z2 :: .int .i64 z3 :: .int .i64 z4 :: .int .i64 z5 :: .int .i64 z6 :: .int .i64 z7 :: .int .i64 z8 :: .list 2 p5 :: .list 4 p6 :: .int .i64 p7 :: .int .i64 p8 :: .int .i64 p9 :: .list 1 x4 :: .list 1 x5 :: .int .i64 x6 :: .int .u64 x7 :: .int .i64 x8 :: .int .i64 x9 :: .list 1 x10 :: .list 1 x11 :: .list 1 x12 :: .int .i64 x13 :: .int .i64 x14 :: .int .i64 x15 :: .list 3 x16 :: []=>(x2 == 0) && (((x4.length : Int) == 0) && (((x5.length : Int) == 0) && ((x6 == 0) && ((x7 == 0) && ((x8 == 0) && ((x9 == 0) && (((x10.length : Int) == 0) && (((x11.length : Int) == 0) && (((x12.length : Int) == 0) && ((x13 == 0 && x14 == 0) && ((x15 == 0) && (((x16.length : Int) == 0) && noneZ [.int .i64 p0, .int .u64 p1, .list 1 p2, .list 4 q0, .list 1 q1, .int .i64 q2, .int .i64 z0, .int .i64 z1, .int .i64 z2, .int .i64 z3, .int .i64 z4, .int .i64 z5, .int .i64 z6, .int .i64 z7, .int .i64 z8, .list 2 p5, .list 4 p6, .int .i64 p7, .int .i64 p8, .int .i64 p9]))))))))))))
 | _=>false
theorem obView (d : Ob) : ∃ p0 p1 p2 q0 q1 q2 z0 z1 z2 z3 z4 z5 z6 z7 z8 p5 p6 p7 p8 p9 x0 x1 x2 x4 x5 x6 x7 x8 x9 x10 x11 x12 x13 x14 x15 x16,d.cells = [.int .u64 x0, .int .i64 x1, .int .i64 x2, .int .i64 p0, .int .u64 p1, .list 1 p2, .list 4 q0, .list 1 q1, .int .i64 q2, .int .i64 z0, .int .i64 z1, .int .i64 z2, .int .i64 z3, .int .i64 z4, .int .i64 z5, .int .i64 z6, .int .i64 z7, .int .i64 z8, .list 2 p5, .list 4 p6, .int .i64 p7, .int .i64 p8, .int .i64 p9, .list 1 x4, .list 1 x5, .int .i64 x6, .int .u64 x7, .int .i64 x8, .int .i64 x9, .list 1 x10, .list 1 x11, .list 1 x12, .int .i64 x13, .int .i64 x14, .int .i64 x15, .list 3 x16] ∧ TyR Try.prog 8 54 [.int .i64 p0, .int .u64 p1, .list 1 p2, .list 4 q0, .list 1 q1, .int .i64 q2, .int .i64 z0, .int .i64 z1, .int .i64 z2, .int .i64 z3, .int .i64 z4, .int .i64 z5, .int .i64 z6, .int .i64 z7, .int .i64 z8, .list 2 p5, .list 4 p6, .int .i64 p7, .int .i64 p8, .int .i64 p9] ∧ bdL 10000 [.int .i64 p0, .int .u64 p1, .list 1 p2, .list 4 q0, .list 1 q1, .int .i64 q2, .int .i64 z0, .int .i64 z1, .int .i64 z2, .int .i64 z3, .int .i64 z4, .int .i64 z5, .int .i64 z6, .int .i64 z7, .int .i64 z8, .list 2 p5, .list 4 p6, .int .i64 p7, .int .i64 p8, .int .i64 p9] = true ∧ (x4.length ≤ 10000 ∧ x5.length ≤ 10000 ∧ x10.length ≤ 10000 ∧ x11.length ≤ 10000 ∧ x12.length ≤ 10000 ∧ x16.length ≤ 10000) := by
 obtain ⟨cs,ty,bd⟩:=d
 obtain ⟨x0,x1,x2,xp,x4,x5,x6,x7,x8,x9,x10,x11,x12,x13,x14,x15,x16,rfl, -, -, -,hp, -⟩:=viewObject ty
 simp only [bdL,bdV,bdL_append,Bool.and_eq_true,Bool.true_and,true_and,decide_eq_true_eq] at bd
 have bp:=bd.1
 have hp':=hp
 obtain ⟨p0,p1,p2,p3,p4,p5,p6,p7,p8,p9,rfl, -, -, -,h3,h4, -⟩:=viewProcess hp
 obtain ⟨q0,q1,q2,rfl, -, -, -⟩:=viewProgram h3
 obtain ⟨z0,z1,z2,z3,z4,z5,z6,z7,z8,rfl, -⟩:=viewCPU h4
 exact ⟨p0,p1,p2,q0,q1,q2,z0,z1,z2,z3,z4,z5,z6,z7,z8,p5,p6,p7,p8,p9,x0,x1,x2,x4,x5,x6,x7,x8,x9,x10,x11,x12,x13,x14,x15,x16,rfl,hp',bp,bd.2.1.1,bd.2.2.1.1,by simp [bd],by simp [bd],by simp [bd],by simp [bd]⟩
noncomputable def onS : SpecFn := mkS (fun d : Ob => [.agg d.cells, .int .i64 0]) fun d => (.bool (bareZ d.cells),[])
theorem onS_eq (d : Ob) : onS [.agg d.cells, .int .i64 0] [] = some (.bool (bareZ d.cells),[]) := mkS_eq (enc := fun d : Ob => [AV.agg d.cells, .int .i64 0]) (fun x y h => by
 simp only [List.cons.injEq,AV.agg.injEq,and_true] at h
 rw [Td.ext h]) d
theorem on_ok : FnC Try.prog 78 onS := by
 refine FnC.walk 78 (fn:=Try.f78) Try.func78 rfl (by kernel_rfl) fun d=>?_
 dsimp only
 obtain ⟨p0,p1,p2,q0,q1,q2,z0,z1,z2,z3,z4,z5,z6,z7,z8,p5,p6,p7,p8,p9,x0,x1,x2,x4,x5,x6,x7,x8,x9,x10,x11,x12,x13,x14,x15,x16,hd,hp,bp,hb⟩:=obView d
 rw [hd]
 have hN:=nnS_eq ⟨_,hp,bp⟩
 dsimp only at hN
 clear hd d hp bp
 change W _ (Ret _ _ (.bool (bareZ [.int .u64 x0, .int .i64 x1, .int .i64 x2, .int .i64 p0, .int .u64 p1, .list 1 p2, .list 4 q0, .list 1 q1, .int .i64 q2, .int .i64 z0, .int .i64 z1, .int .i64 z2, .int .i64 z3, .int .i64 z4, .int .i64 z5, .int .i64 z6, .int .i64 z7, .int .i64 z8, .list 2 p5, .list 4 p6, .int .i64 p7, .int .i64 p8, .int .i64 p9, .list 1 x4, .list 1 x5, .int .i64 x6, .int .u64 x7, .int .i64 x8, .int .i64 x9, .list 1 x10, .list 1 x11, .list 1 x12, .int .i64 x13, .int .i64 x14, .int .i64 x15, .list 3 x16])) []) _ _ ⟨90,[(0, .agg [.int .u64 x0, .int .i64 x1, .int .i64 x2, .int .i64 p0, .int .u64 p1, .list 1 p2, .list 4 q0, .list 1 q1, .int .i64 q2, .int .i64 z0, .int .i64 z1, .int .i64 z2, .int .i64 z3, .int .i64 z4, .int .i64 z5, .int .i64 z6, .int .i64 z7, .int .i64 z8, .list 2 p5, .list 4 p6, .int .i64 p7, .int .i64 p8, .int .i64 p9, .list 1 x4, .list 1 x5, .int .i64 x6, .int .u64 x7, .int .i64 x8, .int .i64 x9, .list 1 x10, .list 1 x11, .list 1 x12, .int .i64 x13, .int .i64 x14, .int .i64 x15, .list 3 x16]),(1, .int .i64 0)],[]⟩
 dsimp only
 have w1 : IntKind.i64.wrap ((x11.length : Int) + x12.length) = (x11.length : Int) + x12.length:=w64 (by omega) (by omega)
 obtain ⟨m1,m2,m3⟩:=marks (x2 != 0) (!noneZ [.int .i64 p0, .int .u64 p1, .list 1 p2, .list 4 q0, .list 1 q1, .int .i64 q2, .int .i64 z0, .int .i64 z1, .int .i64 z2, .int .i64 z3, .int .i64 z4, .int .i64 z5, .int .i64 z6, .int .i64 z7, .int .i64 z8, .list 2 p5, .list 4 p6, .int .i64 p7, .int .i64 p8, .int .i64 p9]) (decide (0 < x4.length)) (decide (0 < x5.length)) (x6 != 0) (x7 != 0) (x8 != 0) (x9 != 0) (decide (0 < x10.length)) (decide ((0 : Int) < (x11.length : Int) + (x12.length : Int))) (!x13 == 0 || !x14 == 0) (x15 != 0) (decide (0 < x16.length))
 have hB : bareZ [.int .u64 x0, .int .i64 x1, .int .i64 x2, .int .i64 p0, .int .u64 p1, .list 1 p2, .list 4 q0, .list 1 q1, .int .i64 q2, .int .i64 z0, .int .i64 z1, .int .i64 z2, .int .i64 z3, .int .i64 z4, .int .i64 z5, .int .i64 z6, .int .i64 z7, .int .i64 z8, .list 2 p5, .list 4 p6, .int .i64 p7, .int .i64 p8, .int .i64 p9, .list 1 x4, .list 1 x5, .int .i64 x6, .int .u64 x7, .int .i64 x8, .int .i64 x9, .list 1 x10, .list 1 x11, .list 1 x12, .int .i64 x13, .int .i64 x14, .int .i64 x15, .list 3 x16] = ((x2 == 0) && (((x4.length : Int) == 0) && (((x5.length : Int) == 0) && ((x6 == 0) && ((x7 == 0) && ((x8 == 0) && ((x9 == 0) && (((x10.length : Int) == 0) && (((x11.length : Int) == 0) && (((x12.length : Int) == 0) && ((x13 == 0 && x14 == 0) && ((x15 == 0) && (((x16.length : Int) == 0) && noneZ [.int .i64 p0, .int .u64 p1, .list 1 p2, .list 4 q0, .list 1 q1, .int .i64 q2, .int .i64 z0, .int .i64 z1, .int .i64 z2, .int .i64 z3, .int .i64 z4, .int .i64 z5, .int .i64 z6, .int .i64 z7, .int .i64 z8, .list 2 p5, .list 4 p6, .int .i64 p7, .int .i64 p8, .int .i64 p9]))))))))))))):=rfl
 rw [hB]
 clear hB
 generalize noneZ [.int .i64 p0, .int .u64 p1, .list 1 p2, .list 4 q0, .list 1 q1, .int .i64 q2, .int .i64 z0, .int .i64 z1, .int .i64 z2, .int .i64 z3, .int .i64 z4, .int .i64 z5, .int .i64 z6, .int .i64 z7, .int .i64 z8, .list 2 p5, .list 4 p6, .int .i64 p7, .int .i64 p8, .int .i64 p9] = nz at *
 generalize hS : mk (decide (0 < x16.length)) 4096 (mk (x15 != 0) 2048 (mk (!x13 == 0 || !x14 == 0) 1024 (mk (decide ((0 : Int) < (x11.length : Int) + (x12.length : Int))) 512 (mk (decide (0 < x10.length)) 256 (mk (x9 != 0) 128 (mk (x8 != 0) 64 (mk (x7 != 0) 32 (mk (x6 != 0) 16 (mk (decide (0 < x5.length)) 8 (mk (decide (0 < x4.length)) 4 (mk (!nz) 2 (mk (x2 != 0) 1 0)))))))))))) = S at m1 m2 m3
 have hf:=fin_zero m1 m2
 have hZ : (S == 0) = ((x2 == 0) && (((x4.length : Int) == 0) && (((x5.length : Int) == 0) && ((x6 == 0) && ((x7 == 0) && ((x8 == 0) && ((x9 == 0) && (((x10.length : Int) == 0) && (((x11.length : Int) == 0) && (((x12.length : Int) == 0) && ((x13 == 0 && x14 == 0) && ((x15 == 0) && (((x16.length : Int) == 0) && nz))))))))))))):=by
   rw [Bool.eq_iff_iff,beq_iff_eq,m3]
   simp only [Bool.and_eq_true,beq_iff_eq,bne_eq_false_iff_eq,Bool.not_eq_false',decide_eq_false_iff_not,Bool.or_eq_false_iff]
   constructor
   · rintro ⟨a1,a2,a3,a4,a5,a6,a7,a8,a9,a10,⟨a11,a12⟩,a13,a14⟩
     exact ⟨a1,by omega,by omega,a5,a6,a7,a8,by omega,by omega,by omega,⟨a11,a12⟩,a13,by omega,a2⟩
   · rintro ⟨a1,a3,a4,a5,a6,a7,a8,a9,a10,a10b,⟨a11,a12⟩,a13,a14,a2⟩
     exact ⟨a1,a2,by omega,by omega,a5,a6,a7,a8,by omega,by omega,⟨a11,a12⟩,a13,by omega⟩
 rw [← hZ]
 repeat (first | refine ZS ?_ | refine ZK tm on_specs_ok rfl (by conv=>lhs; simp [hN,mkkS_eq,w1,hS,hf]) fun _=>?_ | refine ZL tm on_specs_ok rfl (by conv=>lhs; simp [hN,mkkS_eq,w1,hS,hf]) fun _=>?_)
 exact Yr
end
section
noncomputable def br_specs : NL Spec := [(90,⟨1,nnS⟩)]
theorem br_specs_ok : ∀ p ∈ br_specs,FnC Try.prog p.1 p.2.fn := by
 simp only [br_specs,List.mem_cons,List.not_mem_nil,or_false]
 rintro p rfl
 exact bl_ok
attribute [local simp] instA eqlA tgC tgE eqCpu eqEnds br_specs
noncomputable def brS : SpecFn := mkS (fun d : Ob => [.agg d.cells]) fun d => (.bool (bareZ d.cells),[])
theorem brS_eq (d : Ob) : brS [.agg d.cells] [] = some (.bool (bareZ d.cells),[]) := mkS_eq (enc := fun d : Ob => [AV.agg d.cells]) tdInj d
theorem br_ok : FnC Try.prog 83 brS := by
 refine FnC.walk 83 (fn:=Try.f83) Try.func83 rfl (by kernel_rfl) fun d=>?_
 dsimp only
 obtain ⟨p0,p1,p2,q0,q1,q2,z0,z1,z2,z3,z4,z5,z6,z7,z8,p5,p6,p7,p8,p9,x0,x1,x2,x4,x5,x6,x7,x8,x9,x10,x11,x12,x13,x14,x15,x16,hd,hp,bp,hb⟩:=obView d
 rw [hd]
 have hN:=nnS_eq ⟨_,hp,bp⟩
 dsimp only at hN
 clear hd d hp bp
 have hB : bareZ [.int .u64 x0, .int .i64 x1, .int .i64 x2, .int .i64 p0, .int .u64 p1, .list 1 p2, .list 4 q0, .list 1 q1, .int .i64 q2, .int .i64 z0, .int .i64 z1, .int .i64 z2, .int .i64 z3, .int .i64 z4, .int .i64 z5, .int .i64 z6, .int .i64 z7, .int .i64 z8, .list 2 p5, .list 4 p6, .int .i64 p7, .int .i64 p8, .int .i64 p9, .list 1 x4, .list 1 x5, .int .i64 x6, .int .u64 x7, .int .i64 x8, .int .i64 x9, .list 1 x10, .list 1 x11, .list 1 x12, .int .i64 x13, .int .i64 x14, .int .i64 x15, .list 3 x16] = ((x2 == 0) && (((x4.length : Int) == 0) && (((x5.length : Int) == 0) && ((x6 == 0) && ((x7 == 0) && ((x8 == 0) && ((x9 == 0) && (((x10.length : Int) == 0) && (((x11.length : Int) == 0) && (((x12.length : Int) == 0) && ((x13 == 0 && x14 == 0) && ((x15 == 0) && (((x16.length : Int) == 0) && noneZ [.int .i64 p0, .int .u64 p1, .list 1 p2, .list 4 q0, .list 1 q1, .int .i64 q2, .int .i64 z0, .int .i64 z1, .int .i64 z2, .int .i64 z3, .int .i64 z4, .int .i64 z5, .int .i64 z6, .int .i64 z7, .int .i64 z8, .list 2 p5, .list 4 p6, .int .i64 p7, .int .i64 p8, .int .i64 p9]))))))))))))):=rfl
 rw [hB]
 clear hB
 generalize noneZ [.int .i64 p0, .int .u64 p1, .list 1 p2, .list 4 q0, .list 1 q1, .int .i64 q2, .int .i64 z0, .int .i64 z1, .int .i64 z2, .int .i64 z3, .int .i64 z4, .int .i64 z5, .int .i64 z6, .int .i64 z7, .int .i64 z8, .list 2 p5, .list 4 p6, .int .i64 p7, .int .i64 p8, .int .i64 p9] = nz at *
 change W _ (Ret _ _ (.bool ((x2 == 0) && (((x4.length : Int) == 0) && (((x5.length : Int) == 0) && ((x6 == 0) && ((x7 == 0) && ((x8 == 0) && ((x9 == 0) && (((x10.length : Int) == 0) && (((x11.length : Int) == 0) && (((x12.length : Int) == 0) && ((x13 == 0 && x14 == 0) && ((x15 == 0) && (((x16.length : Int) == 0) && (nz))))))))))))))) []) _ _ ⟨80,[(0, .agg [.int .u64 x0, .int .i64 x1, .int .i64 x2, .int .i64 p0, .int .u64 p1, .list 1 p2, .list 4 q0, .list 1 q1, .int .i64 q2, .int .i64 z0, .int .i64 z1, .int .i64 z2, .int .i64 z3, .int .i64 z4, .int .i64 z5, .int .i64 z6, .int .i64 z7, .int .i64 z8, .list 2 p5, .list 4 p6, .int .i64 p7, .int .i64 p8, .int .i64 p9, .list 1 x4, .list 1 x5, .int .i64 x6, .int .u64 x7, .int .i64 x8, .int .i64 x9, .list 1 x10, .list 1 x11, .list 1 x12, .int .i64 x13, .int .i64 x14, .int .i64 x15, .list 3 x16])],[]⟩
 dsimp only
 cases h1 : (x2 == 0) with
 | false =>
   repeat (first | refine ZS ?_ | refine ZK tm br_specs_ok rfl (by conv=>lhs; simp [hN,h1]) fun _=>?_ | refine ZL tm br_specs_ok rfl (by conv=>lhs; simp [hN,h1]) fun _=>?_)
   simp only [h1,Bool.true_and,Bool.false_and,Bool.and_false]
   exact Yr
 | true =>
   cases h2 : ((x4.length : Int) == 0) with
   | false =>
     repeat (first | refine ZS ?_ | refine ZK tm br_specs_ok rfl (by conv=>lhs; simp [hN,h1,h2]) fun _=>?_ | refine ZL tm br_specs_ok rfl (by conv=>lhs; simp [hN,h1,h2]) fun _=>?_)
     simp only [h1,h2,Bool.true_and,Bool.false_and,Bool.and_false]
     exact Yr
   | true =>
     cases h3 : ((x5.length : Int) == 0) with
     | false =>
       repeat (first | refine ZS ?_ | refine ZK tm br_specs_ok rfl (by conv=>lhs; simp [hN,h1,h2,h3]) fun _=>?_ | refine ZL tm br_specs_ok rfl (by conv=>lhs; simp [hN,h1,h2,h3]) fun _=>?_)
       simp only [h1,h2,h3,Bool.true_and,Bool.false_and,Bool.and_false]
       exact Yr
     | true =>
       cases h4 : (x6 == 0) with
       | false =>
         repeat (first | refine ZS ?_ | refine ZK tm br_specs_ok rfl (by conv=>lhs; simp [hN,h1,h2,h3,h4]) fun _=>?_ | refine ZL tm br_specs_ok rfl (by conv=>lhs; simp [hN,h1,h2,h3,h4]) fun _=>?_)
         simp only [h1,h2,h3,h4,Bool.true_and,Bool.false_and,Bool.and_false]
         exact Yr
       | true =>
         cases h5 : (x7 == 0) with
         | false =>
           repeat (first | refine ZS ?_ | refine ZK tm br_specs_ok rfl (by conv=>lhs; simp [hN,h1,h2,h3,h4,h5]) fun _=>?_ | refine ZL tm br_specs_ok rfl (by conv=>lhs; simp [hN,h1,h2,h3,h4,h5]) fun _=>?_)
           simp only [h1,h2,h3,h4,h5,Bool.true_and,Bool.false_and,Bool.and_false]
           exact Yr
         | true =>
           cases h6 : (x8 == 0) with
           | false =>
             repeat (first | refine ZS ?_ | refine ZK tm br_specs_ok rfl (by conv=>lhs; simp [hN,h1,h2,h3,h4,h5,h6]) fun _=>?_ | refine ZL tm br_specs_ok rfl (by conv=>lhs; simp [hN,h1,h2,h3,h4,h5,h6]) fun _=>?_)
             simp only [h1,h2,h3,h4,h5,h6,Bool.true_and,Bool.false_and,Bool.and_false]
             exact Yr
           | true =>
             cases h7 : (x9 == 0) with
             | false =>
               repeat (first | refine ZS ?_ | refine ZK tm br_specs_ok rfl (by conv=>lhs; simp [hN,h1,h2,h3,h4,h5,h6,h7]) fun _=>?_ | refine ZL tm br_specs_ok rfl (by conv=>lhs; simp [hN,h1,h2,h3,h4,h5,h6,h7]) fun _=>?_)
               simp only [h1,h2,h3,h4,h5,h6,h7,Bool.true_and,Bool.false_and,Bool.and_false]
               exact Yr
             | true =>
               cases h8 : ((x10.length : Int) == 0) with
               | false =>
                 repeat (first | refine ZS ?_ | refine ZK tm br_specs_ok rfl (by conv=>lhs; simp [hN,h1,h2,h3,h4,h5,h6,h7,h8]) fun _=>?_ | refine ZL tm br_specs_ok rfl (by conv=>lhs; simp [hN,h1,h2,h3,h4,h5,h6,h7,h8]) fun _=>?_)
                 simp only [h1,h2,h3,h4,h5,h6,h7,h8,Bool.true_and,Bool.false_and,Bool.and_false]
                 exact Yr
               | true =>
                 cases h9 : ((x11.length : Int) == 0) with
                 | false =>
                   repeat (first | refine ZS ?_ | refine ZK tm br_specs_ok rfl (by conv=>lhs; simp [hN,h1,h2,h3,h4,h5,h6,h7,h8,h9]) fun _=>?_ | refine ZL tm br_specs_ok rfl (by conv=>lhs; simp [hN,h1,h2,h3,h4,h5,h6,h7,h8,h9]) fun _=>?_)
                   simp only [h1,h2,h3,h4,h5,h6,h7,h8,h9,Bool.true_and,Bool.false_and,Bool.and_false]
                   exact Yr
                 | true =>
                   cases h10 : ((x12.length : Int) == 0) with
                   | false =>
                     repeat (first | refine ZS ?_ | refine ZK tm br_specs_ok rfl (by conv=>lhs; simp [hN,h1,h2,h3,h4,h5,h6,h7,h8,h9,h10]) fun _=>?_ | refine ZL tm br_specs_ok rfl (by conv=>lhs; simp [hN,h1,h2,h3,h4,h5,h6,h7,h8,h9,h10]) fun _=>?_)
                     simp only [h1,h2,h3,h4,h5,h6,h7,h8,h9,h10,Bool.true_and,Bool.false_and,Bool.and_false]
                     exact Yr
                   | true =>
                     cases h11 : (x13 == 0 && x14 == 0) with
                     | false =>
                       repeat (first | refine ZS ?_ | refine ZK tm br_specs_ok rfl (by conv=>lhs; simp [hN,h1,h2,h3,h4,h5,h6,h7,h8,h9,h10,h11]) fun _=>?_ | refine ZL tm br_specs_ok rfl (by conv=>lhs; simp [hN,h1,h2,h3,h4,h5,h6,h7,h8,h9,h10,h11]) fun _=>?_)
                       simp only [h1,h2,h3,h4,h5,h6,h7,h8,h9,h10,h11,Bool.true_and,Bool.false_and,Bool.and_false]
                       exact Yr
                     | true =>
                       cases h12 : (x15 == 0) with
                       | false =>
                         repeat (first | refine ZS ?_ | refine ZK tm br_specs_ok rfl (by conv=>lhs; simp [hN,h1,h2,h3,h4,h5,h6,h7,h8,h9,h10,h11,h12]) fun _=>?_ | refine ZL tm br_specs_ok rfl (by conv=>lhs; simp [hN,h1,h2,h3,h4,h5,h6,h7,h8,h9,h10,h11,h12]) fun _=>?_)
                         simp only [h1,h2,h3,h4,h5,h6,h7,h8,h9,h10,h11,h12,Bool.true_and,Bool.false_and,Bool.and_false]
                         exact Yr
                       | true =>
                         cases h13 : ((x16.length : Int) == 0) with
                         | false =>
                           repeat (first | refine ZS ?_ | refine ZK tm br_specs_ok rfl (by conv=>lhs; simp [hN,h1,h2,h3,h4,h5,h6,h7,h8,h9,h10,h11,h12,h13]) fun _=>?_ | refine ZL tm br_specs_ok rfl (by conv=>lhs; simp [hN,h1,h2,h3,h4,h5,h6,h7,h8,h9,h10,h11,h12,h13]) fun _=>?_)
                           simp only [h1,h2,h3,h4,h5,h6,h7,h8,h9,h10,h11,h12,h13,Bool.true_and,Bool.false_and,Bool.and_false]
                           exact Yr
                         | true =>
                           repeat (first | refine ZS ?_ | refine ZK tm br_specs_ok rfl (by conv=>lhs; simp [hN,h1,h2,h3,h4,h5,h6,h7,h8,h9,h10,h11,h12,h13]) fun _=>?_ | refine ZL tm br_specs_ok rfl (by conv=>lhs; simp [hN,h1,h2,h3,h4,h5,h6,h7,h8,h9,h10,h11,h12,h13]) fun _=>?_)
                           simp only [h1,h2,h3,h4,h5,h6,h7,h8,h9,h10,h11,h12,h13,Bool.true_and,Bool.and_true]
                           exact Yr
def zO? (d : Ob) : Bool := match d.cells with
 | .int _ i :: .int _ k :: _=>(i == 0) && ((k == 0) && bareZ d.cells)
 | _=>false
noncomputable def zeS : SpecFn := mkS (fun d : Ob => [.agg d.cells]) fun d => (.bool (zO? d),[])
theorem zeS_eq (d : Ob) : zeS [.agg d.cells] [] = some (.bool (zO? d),[]) := mkS_eq (enc := fun d : Ob => [AV.agg d.cells]) tdInj d
noncomputable def ze_specs : NL Spec := [(83,⟨1,brS⟩),(78,⟨1,onS⟩)]
theorem ze_specs_ok : ∀ p ∈ ze_specs,FnC Try.prog p.1 p.2.fn := by
 simp only [ze_specs,List.mem_cons,List.not_mem_nil,or_false]
 rintro p (rfl | rfl)
 · exact br_ok
 · exact on_ok
attribute [local simp] ze_specs
theorem zep_ok : FnC Try.prog 61 zeS := by
 refine FnC.walk 61 (fn:=Try.f61) Try.func61 rfl (by kernel_rfl) fun d=>?_
 dsimp only
 have k1:=brS_eq d
 have k2:=onS_eq d
 obtain ⟨p0,p1,p2,q0,q1,q2,z0,z1,z2,z3,z4,z5,z6,z7,z8,p5,p6,p7,p8,p9,x0,x1,x2,x4,x5,x6,x7,x8,x9,x10,x11,x12,x13,x14,x15,x16,hd, -, -, -⟩:=obView d
 have hz : zO? d = ((x0 == 0) && ((x1 == 0) && bareZ d.cells)):=by unfold zO?; rw [hd]
 rw [hz]
 generalize bareZ d.cells = b at *
 rw [hd] at k1 k2 ⊢
 clear hz hd d
 change W _ (Ret _ _ (.bool ((x0 == 0) && ((x1 == 0) && b))) []) _ _ ⟨15,[(0, .agg [.int .u64 x0, .int .i64 x1, .int .i64 x2, .int .i64 p0, .int .u64 p1, .list 1 p2, .list 4 q0, .list 1 q1, .int .i64 q2, .int .i64 z0, .int .i64 z1, .int .i64 z2, .int .i64 z3, .int .i64 z4, .int .i64 z5, .int .i64 z6, .int .i64 z7, .int .i64 z8, .list 2 p5, .list 4 p6, .int .i64 p7, .int .i64 p8, .int .i64 p9, .list 1 x4, .list 1 x5, .int .i64 x6, .int .u64 x7, .int .i64 x8, .int .i64 x9, .list 1 x10, .list 1 x11, .list 1 x12, .int .i64 x13, .int .i64 x14, .int .i64 x15, .list 3 x16])],[]⟩
 dsimp only
 cases h1 : (x0 == 0) with
 | false =>
   repeat (first | refine ZS ?_ | refine ZK tm ze_specs_ok rfl (by conv=>lhs; simp [k1,k2,h1]) fun _=>?_ | refine ZL tm ze_specs_ok rfl (by conv=>lhs; simp [k1,k2,h1]) fun _=>?_)
   simp only [h1,Bool.true_and,Bool.false_and,Bool.and_false]
   exact Yr
 | true =>
   cases h2 : (x1 == 0) with
   | false =>
     repeat (first | refine ZS ?_ | refine ZK tm ze_specs_ok rfl (by conv=>lhs; simp [k1,k2,h1,h2]) fun _=>?_ | refine ZL tm ze_specs_ok rfl (by conv=>lhs; simp [k1,k2,h1,h2]) fun _=>?_)
     simp only [h1,h2,Bool.true_and,Bool.false_and,Bool.and_false]
     exact Yr
   | true =>
     repeat (first | refine ZS ?_ | refine ZK tm ze_specs_ok rfl (by conv=>lhs; simp [k1,k2,h1,h2]) fun _=>?_ | refine ZL tm ze_specs_ok rfl (by conv=>lhs; simp [k1,k2,h1,h2]) fun _=>?_)
     simp only [h1,h2,Bool.true_and,Bool.and_true]
     exact Yr
end
section
theorem tgP : Try.prog.eqGuardType Try.prog.depth 142 = false := by kernel_rfl
theorem tgS : Try.prog.eqGuardType Try.prog.depth 145 = false := by kernel_rfl
theorem tgI : Try.prog.eqGuardType Try.prog.depth 153 = false := by kernel_rfl
theorem thP : Try.prog.stoodInHeld 142 = false := by kernel_rfl
theorem thS : Try.prog.stoodInHeld 145 = false := by kernel_rfl
theorem thI : Try.prog.stoodInHeld 153 = false := by kernel_rfl
theorem eqPg (a : Int) (b : Bool) : eqV Try.prog 9 142 (.agg [.int .u64 a, .bool b]) (.agg [.int .u64 a, .bool b]) = some true := by
 simp [eqV,Try.underlying142,Try.underlying41,Try.underlying4,thP,eqFs,partV]
theorem eqSl (a b c d : Int) : eqV Try.prog 9 145 (.agg [.int .i64 a, .int .u64 b, .int .u64 c, .int .i64 d]) (.agg [.int .i64 a, .int .u64 b, .int .u64 c, .int .i64 d]) = some true := by
 simp [eqV,Try.underlying145,Try.underlying41,Try.underlying3,thS,eqFs,partV]
theorem eqIn (a b c d : Int) : eqV Try.prog 9 153 (.agg [.int .i64 a, .int .i64 b, .int .i64 c, .int .i64 d]) (.agg [.int .i64 a, .int .i64 b, .int .i64 c, .int .i64 d]) = some true := by
 simp [eqV,Try.underlying153,Try.underlying3,Try.underlying2,thI,eqFs,partV]
attribute [local simp] instA binOpA eqlA tgP tgS tgI eqPg eqSl eqIn
structure Rw (P : Program) (t : TypeId) where
 rows : List (List AV)
 ty : ∀ r ∈ rows,TyR P 8 t r
 bd : rows.length ≤ 10000
theorem Rw.ext {P : Program} {t : TypeId} {a b : Rw P t} (h : a.rows = b.rows) : a = b := by
 cases a; cases b; simp only at h; subst h; rfl
structure Nms (P : Program) (t : TypeId) where
 rows : List (List AV)
 ty : ∀ r ∈ rows,TyR P 8 t r
 bd : rows.length ≤ 10000
 bs : ∀ r ∈ rows,bdL 10000 r = true
end
section
theorem eqCpuS (a b c d e f g h i : Int) : eqV Try.prog 9 50 (.agg [.int .i64 a, .int .i64 b, .int .i64 c, .int .i64 d, .int .i64 e, .int .i64 f, .int .i64 g, .int .i64 h, .int .i64 i]) (.agg [.int .i64 a, .int .i64 b, .int .i64 c, .int .i64 d, .int .i64 e, .int .i64 f, .int .i64 g, .int .i64 h, .int .i64 i]) = some true := by
 simp [eqCpu]
theorem eqEndsS (a b : Int) : eqV Try.prog 9 57 (.agg [.int .i64 a, .int .i64 b]) (.agg [.int .i64 a, .int .i64 b]) = some true := by
 simp [eqEnds]
attribute [local simp] instA binOpA eqlA tgC tgE eqCpuS eqEndsS
end
section
theorem obLeafs : (leafs Try.prog 60).length = 36 := by kernel_rfl
@[simp] theorem ob_len (o : Ob) : o.cells.length = 36 := o.len'.trans obLeafs
@[simp] theorem ob_drop (o : Ob) (l : List AV) (n : Nat) (h : 36 ≤ n) : (o.cells ++ l).drop n = l.drop (n - 36) := by
 rw [List.drop_append,ob_len,List.drop_eq_nil_of_le (by rw [ob_len]; omega),List.nil_append]
@[simp] theorem ob_take (o : Ob) (l : List AV) (n : Nat) (h : 36 ≤ n) : (o.cells ++ l).take n = o.cells ++ l.take (n - 36) := by
 rw [List.take_append,ob_len,List.take_of_length_le (by rw [ob_len]; omega)]
@[simp] theorem ob_take0 (o : Ob) : o.cells.take 36 = o.cells := List.take_of_length_le (by rw [ob_len]; omega)
@[simp] theorem ob_get (o : Ob) (l : List AV) (n : Nat) (h : 36 ≤ n) : (o.cells ++ l)[n]? = l[n - 36]? := by
 rw [List.getElem?_append_right (by rw [ob_len]; omega),ob_len]
structure Tok where
 id : Int
 mode : Int
 obj : Ob
 want : Int
 pin : Bool
 due : Bool
@[simp] def Tok.c (t : Tok) : List AV := .int .u64 t.id :: .int .i64 t.mode :: (t.obj.cells ++ [.int .i64 t.want, .bool t.pin, .bool t.due])
theorem Tok.c_inj {s t : Tok} (h : s.c = t.c) : s = t := by
 obtain ⟨a,b,o,c,d,e⟩:=s
 obtain ⟨a',b',o',c',d',e'⟩:=t
 simp only [Tok.c,List.cons.injEq,AV.int.injEq,true_and] at h
 obtain ⟨rfl,rfl,h⟩:=h
 obtain ⟨h1,h2⟩:=List.append_inj h (by simp)
 simp only [List.cons.injEq,AV.int.injEq,AV.bool.injEq,true_and,and_true] at h2
 obtain ⟨rfl,rfl,rfl⟩:=h2
 rw [Td.ext h1]
theorem rows_inj {s t : List Tok} (h : s.map Tok.c = t.map Tok.c) : s = t := by
 induction s generalizing t with
 | nil=>cases t with
   | nil=>rfl
   | cons=>simp at h
 | cons x r ih =>
   cases t with
   | nil=>simp at h
   | cons y q =>
     simp only [List.map_cons,List.cons.injEq] at h
     rw [Tok.c_inj h.1,ih h.2]
structure Tks where
 node : Int
 toks : List Tok
 bd : toks.length ≤ 9000
def Tks.v (d : Tks) : AV := .agg [.int .i64 d.node, .list 41 (d.toks.map Tok.c)]
theorem Tks.v_inj {s t : Tks} (h : s.v = t.v) : s = t := by
 obtain ⟨a,l,b⟩:=s
 obtain ⟨a',l',b'⟩:=t
 simp only [Tks.v,AV.agg.injEq,List.cons.injEq,AV.int.injEq,AV.list.injEq,true_and,and_true] at h
 obtain ⟨rfl,h⟩:=h
 cases rows_inj h
 rfl
def tyFsP (q : TypeId → List AV → Option (List AV)) : List TypeId → List AV → Option (List AV)
 | [],xs=>some xs
 | t :: r,xs=>(q t xs).bind (tyFsP q r)
def tyB : List AV → Option (List AV)
 | .bool _ :: r=>some r
 | _=>none
def tyI (k : IntKind) : List AV → Option (List AV)
 | .int k' m :: r=>if k = k' ∧ (Lit.int k m).wf = true then some r else none
 | _=>none
def tyS (n : Nat) : List AV → Option (List AV)
 | .list sz [] :: r=>if sz = n then some r else none
 | _=>none
def tyP (P : Program) : Nat → TypeId → List AV → Option (List AV)
 | 0,_,_=>none
 | n + 1,t,xs=>match P.underlying t with
   | some .bool=>tyB xs
   | some (.int k)=>tyI k xs
   | some (.slice e)=>tyS (P.cellsOf e) xs
   | some (.struct fs)=>tyFsP (tyP P n) (fs.toList.map (·.type)) xs
   | some (.array m e)=>tyFsP (tyP P n) (List.replicate m e) xs
   | _=>none
theorem tyFsP_ok {q : TypeId → List AV → Option (List AV)} {Q : TypeId → List AV → Prop} (h : ∀ t xs r,q t xs = some r → ∃ a,xs = a ++ r ∧ Q t a) : ∀ (ts : List TypeId) (xs r : List AV),tyFsP q ts xs = some r → ∃ a,xs = a ++ r ∧ TyFs Q ts a
 | [],xs,r,e=>by
   simp only [tyFsP,Option.some.injEq] at e
   subst e
   exact ⟨[],rfl,rfl⟩
 | t :: ts,xs,r,e=>by
   simp only [tyFsP] at e
   obtain ⟨m,e1,e2⟩:=Option.bind_eq_some_iff.1 e
   obtain ⟨a,rfl,ha⟩:=h _ _ _ e1
   obtain ⟨b,rfl,hb⟩:=tyFsP_ok h ts m r e2
   exact ⟨a ++ b,by rw [List.append_assoc],a,b,rfl,ha,hb⟩
theorem tyP_ok {P : Program} : ∀ (n : Nat) (t : TypeId) (xs r : List AV),tyP P n t xs = some r → ∃ a,xs = a ++ r ∧ TyR P n t a
 | 0,t,xs,r,h=>by simp [tyP] at h
 | n + 1,t,xs,r,h=>by
   rw [tyP] at h
   split at h
   · rename_i hu
     unfold tyB at h
     split at h
     · rename_i b r'
       cases h
       exact ⟨[.bool b],rfl,by simp only [TyR,hu]; exact ⟨b,rfl⟩⟩
     · cases h
   · rename_i k hu
     unfold tyI at h
     split at h
     · rename_i k' m r'
       split at h
       · rename_i hk
         obtain ⟨rfl,hw⟩:=hk
         cases h
         exact ⟨[.int k m],rfl,by simp only [TyR,hu]; exact ⟨m,rfl,hw⟩⟩
       · cases h
     · cases h
   · rename_i e hu
     unfold tyS at h
     split at h
     · rename_i sz r'
       split at h
       · rename_i hk
         subst hk
         cases h
         refine ⟨[.list _ []],rfl, ?_⟩
         simp only [TyR,hu]
         exact ⟨[],rfl,by simp [maxLen],by simp⟩
       · cases h
     · cases h
   · rename_i fs hu
     obtain ⟨a,e1,e2⟩:=tyFsP_ok (Q:=TyR P n) (fun t xs r h=>tyP_ok n t xs r h) _ _ _ h
     refine ⟨a,e1, ?_⟩
     simp only [TyR,hu]
     exact e2
   · rename_i m e hu
     obtain ⟨a,e1,e2⟩:=tyFsP_ok (Q:=TyR P n) (fun t xs r h=>tyP_ok n t xs r h) _ _ _ h
     refine ⟨a,e1, ?_⟩
     simp only [TyR,hu]
     exact e2
   · cases h
def zN : List AV := [.int .u64 0, .int .i64 0, .int .i64 0, .int .i64 0, .int .u64 0, .list 1 [], .list 4 [], .list 1 [], .int .i64 0, .int .i64 0, .int .i64 0, .int .i64 0, .int .i64 0, .int .i64 0, .int .i64 0, .int .i64 0, .int .i64 0, .int .i64 0, .list 2 [], .list 4 [], .int .i64 0, .int .i64 0, .int .i64 0, .list 1 [], .list 1 [], .int .i64 0, .int .u64 0, .int .i64 0, .int .i64 0, .list 1 [], .list 1 [], .list 1 [], .int .i64 0, .int .i64 0, .int .i64 0, .list 3 []]
theorem zN_eq : nrmL Try.prog (leafs Try.prog 60) zO = zN := by kernel_rfl
theorem zN_p : tyP Try.prog 8 60 zN = some [] := by kernel_rfl
theorem zObTy : TyR Try.prog 8 60 zN := by
 obtain ⟨a,h1,h2⟩:=tyP_ok 8 _ _ _ zN_p
 rw [List.append_nil] at h1
 rw [h1]
 exact h2
theorem zN_b : bdL 10000 zN = true := by kernel_rfl
def zOb : Ob := ⟨zN,zObTy,zN_b⟩
def fnd (id : Int) : List Tok → Option Tok
 | []=>none
 | t :: r=>if t.id = id then some t else fnd id r
def tok0 (id : Int) : Tok := ⟨id,0,zOb,0,false,false⟩
noncomputable def fndS : SpecFn := mkS (fun d : Tks × Int => [d.1.v, .int .u64 d.2]) fun d => (.agg ((fnd d.2 d.1.toks).getD (tok0 d.2)).c,[])
theorem fndS_eq (d : Tks) (id : Int) : fndS [d.v, .int .u64 id] [] = some (.agg ((fnd id d.toks).getD (tok0 id)).c,[]) :=
 mkS_eq (enc:=fun d : Tks × Int=>[d.1.v, .int .u64 d.2]) (fun x y h=>by
   obtain ⟨a,b⟩:=x
   obtain ⟨a',b'⟩:=y
   simp only [List.cons.injEq,AV.int.injEq,true_and,and_true] at h
   obtain ⟨h,rfl⟩:=h
   cases Tks.v_inj h
   rfl) (d,id)
theorem tokLeafs : leafs Try.prog 71 = 41 :: 3 :: (leafs Try.prog 60 ++ [3,4,4]) := by rw [lf71,lf60]; rfl
theorem tok_nrm (t : Tok) : nrmL Try.prog (leafs Try.prog 71) t.c = t.c := by
 rw [tokLeafs]
 simp only [Tok.c,nrmL]
 rw [nrmL_append _ _ _ _ t.obj.len'.symm,t.obj.nrmL]
 simp [nrmL,nrmV]
theorem tok_nrm0 (id mode want : Int) (pin due : Bool) : nrmL Try.prog (leafs Try.prog 71) (.int .u64 id :: .int .i64 mode :: (zO ++ [.int .i64 want, .bool pin, .bool due])) = (⟨id,mode,zOb,want,pin,due⟩ : Tok).c := by
 rw [tokLeafs]
 simp only [Tok.c,nrmL]
 rw [nrmL_append _ _ _ _ (by rw [obLeafs]; rfl),zN_eq]
 simp [nrmL,nrmV,zOb]
theorem tok_nrmV (t : Tok) : nrmR Try.prog [71] (.agg t.c) = .agg t.c := by
 simp only [nrmR,nrmV,tok_nrm]
theorem tks_nrmR (n : Int) (l : List Tok) : nrmR Try.prog [30] (.agg [.int .i64 n, .list 41 (l.map Tok.c)]) = .agg [.int .i64 n, .list 41 (l.map Tok.c)] := by
 have h : leafs Try.prog 30 = [3,28]:=lf30
 have hu : Try.prog.underlying 28 = some (.slice 71):=by kernel_rfl
 simp only [nrmR,nrmV,h,nrmL,hu,nrmRows_map tok_nrm]
attribute [local simp] instA
end
section
def putL (t : Tok) : Bool → List Tok → List Tok
 | done,[]=>if done = true then [] else [t]
 | done,r :: rs=>(if done = false ∧ t.id ≤ r.id then [t] else []) ++ ((if r.id = t.id then [] else [r]) ++ putL t (done || decide (t.id ≤ r.id)) rs)
def Tok.gone (t : Tok) : Bool := t.mode == 0 && t.want == 0
def put (t : Tok) (l : List Tok) : List Tok := putL t t.gone l
def tkB (g : Nat) (l : List Tok) : ABlk := { gen := g,kind := 2,elem := 71,size := 41,inl := true,rows := l.map Tok.c }
def IsAcc (h : NL ABlk) (P : AV) (l : List Tok) : Prop := (P = .nils ∧ l = []) ∨ ∃ g,(P = .sl 656 g 0 l.length ∧ lk h 656 = some (tkB g l)) ∨ (P = .sl 832 g 0 l.length ∧ lk h 832 = some (tkB g l))
attribute [local simp] instA
theorem m1 : (1 : Nat) ≤ maxLen := by decide
theorem m2 : (2 : Nat) ≤ maxLen := by decide
theorem first_all {n : Nat} {l : List (List AV)} (h : l.length = n) : firstRows n l = l := by
 subst h
 simp [firstRows]
theorem take_acc (acc : List Tok) : (acc.map Tok.c).take acc.length = acc.map Tok.c := List.take_of_length_le (by simp)
theorem tks_nrm0 (n : Int) : nrmR Try.prog [30] (.agg [.int .i64 n, .nils]) = .agg [.int .i64 n, .list 41 ([].map Tok.c)] := by
 have hc : Try.prog.cellsOf 71 = 41:=by kernel_rfl
 simp [nrmR,nrmV,nrmL,hc]
structure PI (nd : Int) (l : List Tok) (t : Tok) (gone : Bool) (k : Nat) (h : NL ABlk) (P : AV) (acc : List Tok) (dn : Bool) : Prop where
 hk : k ≤ l.length
 len : acc.length ≤ 2 * k
 eq : putL t gone l = acc ++ putL t dn (l.drop k)
 h64 : lk h 64 = some { gen:=1,kind:=2,elem:=71,size:=41,inl:=false,rows:=[.int .u64 t.id :: .int .i64 t.mode :: (t.obj.cells ++ [.int .i64 t.want, .bool t.pin, .bool t.due])] }
 h80 : lk h 80 = some { gen:=1,kind:=2,elem:=30,size:=2,inl:=false,rows:=[[.int .i64 0, .nils]] }
 h96 : lk h 96 = some { gen:=1,kind:=2,elem:=30,size:=2,inl:=false,rows:=[[.int .i64 nd,P]] }
 hP : IsAcc h P acc
end
section
def okM (m : Int) : Bool := m == 1 || m == 2
def okN (m : Int) : Bool := decide (0 ≤ m) && decide (m ≤ 127)
noncomputable def boS (f : Int → Bool) : SpecFn := mkS (fun d : Int => [.int .i64 d]) fun d => (.bool (f d),[])
theorem boS_eq (f : Int → Bool) (d : Int) : boS f [.int .i64 d] [] = some (.bool (f d),[]) :=
 mkS_eq (enc:=fun d : Int=>[AV.int .i64 d]) (fun x y h=>by
   simp only [List.cons.injEq,AV.int.injEq,true_and,and_true] at h
   rw [h]) d
attribute [local simp] instA
theorem mo1_ok : FnC Try.prog 25 (boS okM) := by
 refine FnC.walk 25 (fn:=Try.f25) Try.func25 rfl (by kernel_rfl) fun m=>?_
 change W _ (Ret _ _ (.bool (m == 1 || m == 2)) []) _ _ ⟨9,[(0, .int .i64 m)],[]⟩
 by_cases hA : m = 1
 · have eA : (m == 1) = true:=by simp [hA]
   have nA : (m != 1) = false:=by simp [hA]
   repeat (first | refine ZS ?_ | refine ZK tm no_specs rfl (by conv=>lhs; simp [eA,nA]) fun _=>?_ | refine ZL tm no_specs rfl (by conv=>lhs; simp [eA,nA]) fun _=>?_)
   simp only [eA,nA,Bool.true_or,Bool.false_or]
   exact Yr
 · have eA : (m == 1) = false:=by simp [hA]
   have nA : (m != 1) = true:=by simp [hA]
   by_cases hB : m = 2
   · have eB : (m == 2) = true:=by simp [hB]
     have nB : (m != 2) = false:=by simp [hB]
     repeat (first | refine ZS ?_ | refine ZK tm no_specs rfl (by conv=>lhs; simp [eA,nA,eB,nB]) fun _=>?_ | refine ZL tm no_specs rfl (by conv=>lhs; simp [eA,nA,eB,nB]) fun _=>?_)
     simp only [eA,nA,eB,nB,Bool.true_or,Bool.false_or]
     exact Yr
   · have eB : (m == 2) = false:=by simp [hB]
     have nB : (m != 2) = true:=by simp [hB]
     repeat (first | refine ZS ?_ | refine ZK tm no_specs rfl (by conv=>lhs; simp [eA,nA,eB,nB]) fun _=>?_ | refine ZL tm no_specs rfl (by conv=>lhs; simp [eA,nA,eB,nB]) fun _=>?_)
     simp only [eA,nA,eB,nB,Bool.true_or,Bool.false_or]
     exact Yr
theorem no1_ok : FnC Try.prog 26 (boS okN) := by
 refine FnC.walk 26 (fn:=Try.f26) Try.func26 rfl (by kernel_rfl) fun m=>?_
 change W _ (Ret _ _ (.bool (decide (0 ≤ m) && decide (m ≤ 127))) []) _ _ ⟨9,[(0, .int .i64 m)],[]⟩
 by_cases hA : 0 ≤ m
 · have eA : decide (0 ≤ m) = true:=by simp [hA]
   by_cases hB : m ≤ 127
   · have eB : decide (m ≤ 127) = true:=by simp [hB]
     repeat (first | refine ZS ?_ | refine ZK tm no_specs rfl (by conv=>lhs; simp [eA,hA,eB,hB]) fun _=>?_ | refine ZL tm no_specs rfl (by conv=>lhs; simp [eA,hA,eB,hB]) fun _=>?_)
     simp only [eA,eB,Bool.true_and,Bool.false_and]
     exact Yr
   · have eB : decide (m ≤ 127) = false:=by simp [hB]
     repeat (first | refine ZS ?_ | refine ZK tm no_specs rfl (by conv=>lhs; simp [eA,hA,eB,hB]) fun _=>?_ | refine ZL tm no_specs rfl (by conv=>lhs; simp [eA,hA,eB,hB]) fun _=>?_)
     simp only [eA,eB,Bool.true_and,Bool.false_and]
     exact Yr
 · have eA : decide (0 ≤ m) = false:=by simp [hA]
   repeat (first | refine ZS ?_ | refine ZK tm no_specs rfl (by conv=>lhs; simp [eA,hA]) fun _=>?_ | refine ZL tm no_specs rfl (by conv=>lhs; simp [eA,hA]) fun _=>?_)
   simp only [eA,Bool.true_and,Bool.false_and]
   exact Yr
theorem ob_view (o : Ob) : ∃ i r,o.cells = .int .u64 i :: r := by
 obtain ⟨x0,x1,x2,xp,x4,x5,x6,x7,x8,x9,x10,x11,x12,x13,x14,x15,x16,h, -⟩:=viewObject o.ty
 exact ⟨x0,_,h⟩
noncomputable def oid (o : Ob) : Int := (ob_view o).choose
theorem oid_eq (o : Ob) : ∃ r,o.cells = .int .u64 (oid o) :: r := (ob_view o).choose_spec
def hdA : List AV → AP AV
 | x :: _ => .ret x
 | [] => .fail
theorem mkv_hd (P : Program) (t : TypeId) (cells : List AV) : mkv P t cells = match aggT P t with
 | some true=>match szOf P t with
   | some s=>if s ≤ cells.length then .ret (.agg (cells.take s)) else .fail
   | none => .fail
 | some false=>hdA cells
 | none => .fail:=by
 unfold mkv hdA
 rfl
@[local simp] theorem hdA_cons (x : AV) (r : List AV) : hdA (x :: r) = .ret x := rfl
@[local simp] theorem hdA_ob (o : Ob) (l : List AV) : hdA (o.cells ++ l) = .ret (.int .u64 (oid o)) := by
 obtain ⟨r,h⟩:=oid_eq o
 rw [h]
 rfl
@[local simp] theorem hdA_ob' (o : Ob) : hdA o.cells = .ret (.int .u64 (oid o)) := by
 obtain ⟨r,h⟩:=oid_eq o
 rw [h]
 rfl
attribute [-simp] mkv
attribute [local simp] mkv_hd
noncomputable def fineR (t : Tok) : Bool := t.id != 0 && ((t.mode == 0 || okM t.mode) && ((t.want == 0 || (okM t.want && decide (t.mode < t.want))) && ((zO? t.obj || (oid t.obj == t.id && t.mode != 0)) && ((!t.pin || t.mode != 0) && ((!t.due || t.pin) && (t.mode != 0 || t.want != 0))))))
noncomputable def toS (f : Tok → Bool) : SpecFn := mkS (fun d : Tok => [.agg d.c]) fun d => (.bool (f d),[])
theorem toS_eq (f : Tok → Bool) (d : Tok) : toS f [.agg d.c] [] = some (.bool (f d),[]) :=
 mkS_eq (enc:=fun d : Tok=>[AV.agg d.c]) (fun x y h=>by
   simp only [List.cons.injEq,AV.agg.injEq,and_true] at h
   rw [Tok.c_inj h]) d
end
section
attribute [local simp] instA
attribute [-simp] mkv
attribute [local simp] mkv_hd hdA_cons hdA_ob hdA_ob'
noncomputable def fi_specs : NL Spec := [(61,⟨1,zeS⟩)]
theorem fi_specs_ok : ∀ p ∈ fi_specs,FnC Try.prog p.1 p.2.fn := by
 simp only [fi_specs,List.mem_cons,List.not_mem_nil,or_false]
 rintro p rfl
 exact zep_ok
attribute [local simp] fi_specs
noncomputable def fitS : SpecFn := mkS (fun d : Ob × Int => [.agg d.1.cells, .int .u64 d.2]) fun d => (.bool (oid d.1 == d.2 || zO? d.1),[])
theorem fitS_eq (o : Ob) (id : Int) : fitS [.agg o.cells, .int .u64 id] [] = some (.bool (oid o == id || zO? o),[]) :=
 mkS_eq (enc:=fun d : Ob × Int=>[AV.agg d.1.cells, .int .u64 d.2]) (fun x y h=>by
   obtain ⟨a,b⟩:=x
   obtain ⟨a',b'⟩:=y
   simp only [List.cons.injEq,AV.agg.injEq,AV.int.injEq,true_and,and_true] at h
   obtain ⟨h,rfl⟩:=h
   cases Td.ext h
   rfl) (o,id)
theorem fit_ok : FnC Try.prog 32 fitS := by
 refine FnC.walk 32 (fn:=Try.f32) Try.func32 rfl (by kernel_rfl) fun d=>?_
 obtain ⟨o,id⟩:=d
 have c3:=zeS_eq o
 change W _ (Ret _ _ (.bool (oid o == id || zO? o)) []) _ _ ⟨13,[(0, .agg o.cells),(1, .int .u64 id)],[]⟩
 generalize zO? o = z at *
 generalize hoi : oid o = oi at *
 by_cases hE : oi = id
 · have eE : (oi == id) = true:=by simp [hE]
   have nE : (oi != id) = false:=by simp [hE]
   repeat (first | refine ZS ?_ | refine ZK tm fi_specs_ok rfl (by conv=>lhs; simp [c3,hoi,eE,nE]) fun _=>?_ | refine ZL tm fi_specs_ok rfl (by conv=>lhs; simp [c3,hoi,eE,nE]) fun _=>?_)
   simp only [eE,nE,Bool.true_or,Bool.false_or]
   exact Yr
 · have eE : (oi == id) = false:=by simp [hE]
   have nE : (oi != id) = true:=by simp [hE]
   cases hZ : z with
   | false =>
     repeat (first | refine ZS ?_ | refine ZK tm fi_specs_ok rfl (by conv=>lhs; simp [c3,hoi,eE,nE,hZ]) fun _=>?_ | refine ZL tm fi_specs_ok rfl (by conv=>lhs; simp [c3,hoi,eE,nE,hZ]) fun _=>?_)
     simp only [eE,nE,hZ,Bool.true_or,Bool.false_or]
     exact Yr
   | true =>
     repeat (first | refine ZS ?_ | refine ZK tm fi_specs_ok rfl (by conv=>lhs; simp [c3,hoi,eE,nE,hZ]) fun _=>?_ | refine ZL tm fi_specs_ok rfl (by conv=>lhs; simp [c3,hoi,eE,nE,hZ]) fun _=>?_)
     simp only [eE,nE,hZ,Bool.true_or,Bool.false_or]
     exact Yr
noncomputable def fineI (t : Tok) : Bool := !(t.id == 0 || ((!okM t.mode && t.mode != 0) || ((!okM t.want && t.want != 0) || ((!okM t.mode && !okM t.want) || (okM t.want && decide (t.want ≤ t.mode)))))) && (!((t.pin && !okM t.mode) || ((t.due && !t.pin) || (!okM t.mode && !zO? t.obj))) && (oid t.obj == t.id || zO? t.obj))
noncomputable def fn_specs : NL Spec := [(25,⟨1,boS okM⟩),(61,⟨1,zeS⟩),(32,⟨1,fitS⟩)]
theorem fn_specs_ok : ∀ p ∈ fn_specs,FnC Try.prog p.1 p.2.fn := by
 simp only [fn_specs,List.mem_cons,List.not_mem_nil,or_false]
 rintro p (rfl | rfl | rfl)
 · exact mo1_ok
 · exact zep_ok
 · exact fit_ok
attribute [local simp] fn_specs
theorem fn_ok : FnC Try.prog 43 (toS fineI) := by
 refine FnC.walk 43 (fn:=Try.f43) Try.func43 rfl (by kernel_rfl) fun d=>?_
 obtain ⟨a1,a2,o,a3,a4,a5⟩:=d
 have c1:=boS_eq okM a2
 have c2:=boS_eq okM a3
 have c3:=zeS_eq o
 have c4:=fitS_eq o a1
 change W _ (Ret _ _ (.bool (!(a1 == 0 || ((!okM a2 && a2 != 0) || ((!okM a3 && a3 != 0) || ((!okM a2 && !okM a3) || (okM a3 && decide (a3 ≤ a2)))))) && (!((a4 && !okM a2) || ((a5 && !a4) || (!okM a2 && !zO? o))) && (oid o == a1 || zO? o)))) []) _ _ ⟨70,[(0, .agg (.int .u64 a1 :: .int .i64 a2 :: (o.cells ++ [.int .i64 a3, .bool a4, .bool a5])))],[]⟩
 generalize hfi : (oid o == a1 || zO? o) = fi at *
 generalize zO? o = z at *
 by_cases hI : a1 = 0
 · have eI : (a1 == 0) = true:=by simp [hI]
   have nI : (a1 != 0) = false:=by simp [hI]
   repeat (first | refine ZS ?_ | refine ZK tm fn_specs_ok rfl (by conv=>lhs; simp [c1,c2,c3,c4,eI,nI]) fun _=>?_ | refine ZL tm fn_specs_ok rfl (by conv=>lhs; simp [c1,c2,c3,c4,eI,nI]) fun _=>?_)
   simp only [eI,nI,Bool.true_or,Bool.false_or,Bool.or_true,Bool.or_false,Bool.true_and,Bool.false_and,Bool.and_true,Bool.and_false,Bool.not_true,Bool.not_false]
   exact Yr
 · have eI : (a1 == 0) = false:=by simp [hI]
   have nI : (a1 != 0) = true:=by simp [hI]
   cases hS : okM a2 with
   | false =>
     by_cases hM : a2 = 0
     · have eM : (a2 == 0) = true:=by simp [hM]
       have nM : (a2 != 0) = false:=by simp [hM]
       cases hV : okM a3 with
       | false =>
         by_cases hW : a3 = 0
         · have eW : (a3 == 0) = true:=by simp [hW]
           have nW : (a3 != 0) = false:=by simp [hW]
           repeat (first | refine ZS ?_ | refine ZK tm fn_specs_ok rfl (by conv=>lhs; simp [c1,c2,c3,c4,eI,nI,hS,eM,nM,hV,eW,nW]) fun _=>?_ | refine ZL tm fn_specs_ok rfl (by conv=>lhs; simp [c1,c2,c3,c4,eI,nI,hS,eM,nM,hV,eW,nW]) fun _=>?_)
           simp only [eI,nI,hS,eM,nM,hV,eW,nW,Bool.true_or,Bool.false_or,Bool.or_true,Bool.or_false,Bool.true_and,Bool.false_and,Bool.and_true,Bool.and_false,Bool.not_true,Bool.not_false]
           exact Yr
         · have eW : (a3 == 0) = false:=by simp [hW]
           have nW : (a3 != 0) = true:=by simp [hW]
           repeat (first | refine ZS ?_ | refine ZK tm fn_specs_ok rfl (by conv=>lhs; simp [c1,c2,c3,c4,eI,nI,hS,eM,nM,hV,eW,nW]) fun _=>?_ | refine ZL tm fn_specs_ok rfl (by conv=>lhs; simp [c1,c2,c3,c4,eI,nI,hS,eM,nM,hV,eW,nW]) fun _=>?_)
           simp only [eI,nI,hS,eM,nM,hV,eW,nW,Bool.true_or,Bool.false_or,Bool.or_true,Bool.or_false,Bool.true_and,Bool.false_and,Bool.and_true,Bool.and_false,Bool.not_true,Bool.not_false]
           exact Yr
       | true =>
         by_cases hG : a3 ≤ a2
         · have eG : decide (a3 ≤ a2) = true:=by simp [hG]
           repeat (first | refine ZS ?_ | refine ZK tm fn_specs_ok rfl (by conv=>lhs; simp [c1,c2,c3,c4,eI,nI,hS,eM,nM,hV,eG,hG]) fun _=>?_ | refine ZL tm fn_specs_ok rfl (by conv=>lhs; simp [c1,c2,c3,c4,eI,nI,hS,eM,nM,hV,eG,hG]) fun _=>?_)
           simp only [eI,nI,hS,eM,nM,hV,eG,Bool.true_or,Bool.false_or,Bool.or_true,Bool.or_false,Bool.true_and,Bool.false_and,Bool.and_true,Bool.and_false,Bool.not_true,Bool.not_false]
           exact Yr
         · have eG : decide (a3 ≤ a2) = false:=by simp [hG]
           cases hP : a4 with
           | false =>
             cases hD : a5 with
             | false =>
               cases hZ : z with
               | false =>
                 repeat (first | refine ZS ?_ | refine ZK tm fn_specs_ok rfl (by conv=>lhs; simp [c1,c2,c3,c4,eI,nI,hS,eM,nM,hV,eG,hG,hP,hD,hZ]) fun _=>?_ | refine ZL tm fn_specs_ok rfl (by conv=>lhs; simp [c1,c2,c3,c4,eI,nI,hS,eM,nM,hV,eG,hG,hP,hD,hZ]) fun _=>?_)
                 simp only [eI,nI,hS,eM,nM,hV,eG,hP,hD,hZ,Bool.true_or,Bool.false_or,Bool.or_true,Bool.or_false,Bool.true_and,Bool.false_and,Bool.and_true,Bool.and_false,Bool.not_true,Bool.not_false]
                 exact Yr
               | true =>
                 repeat (first | refine ZS ?_ | refine ZK tm fn_specs_ok rfl (by conv=>lhs; simp [c1,c2,c3,c4,eI,nI,hS,eM,nM,hV,eG,hG,hP,hD,hZ]) fun _=>?_ | refine ZL tm fn_specs_ok rfl (by conv=>lhs; simp [c1,c2,c3,c4,eI,nI,hS,eM,nM,hV,eG,hG,hP,hD,hZ]) fun _=>?_)
                 simp only [eI,nI,hS,eM,nM,hV,eG,hP,hD,hZ,Bool.true_or,Bool.false_or,Bool.or_true,Bool.or_false,Bool.true_and,Bool.false_and,Bool.and_true,Bool.and_false,Bool.not_true,Bool.not_false]
                 exact Yr
             | true =>
               repeat (first | refine ZS ?_ | refine ZK tm fn_specs_ok rfl (by conv=>lhs; simp [c1,c2,c3,c4,eI,nI,hS,eM,nM,hV,eG,hG,hP,hD]) fun _=>?_ | refine ZL tm fn_specs_ok rfl (by conv=>lhs; simp [c1,c2,c3,c4,eI,nI,hS,eM,nM,hV,eG,hG,hP,hD]) fun _=>?_)
               simp only [eI,nI,hS,eM,nM,hV,eG,hP,hD,Bool.true_or,Bool.false_or,Bool.or_true,Bool.or_false,Bool.true_and,Bool.false_and,Bool.and_true,Bool.and_false,Bool.not_true,Bool.not_false]
               exact Yr
           | true =>
             repeat (first | refine ZS ?_ | refine ZK tm fn_specs_ok rfl (by conv=>lhs; simp [c1,c2,c3,c4,eI,nI,hS,eM,nM,hV,eG,hG,hP]) fun _=>?_ | refine ZL tm fn_specs_ok rfl (by conv=>lhs; simp [c1,c2,c3,c4,eI,nI,hS,eM,nM,hV,eG,hG,hP]) fun _=>?_)
             simp only [eI,nI,hS,eM,nM,hV,eG,hP,Bool.true_or,Bool.false_or,Bool.or_true,Bool.or_false,Bool.true_and,Bool.false_and,Bool.and_true,Bool.and_false,Bool.not_true,Bool.not_false]
             exact Yr
     · have eM : (a2 == 0) = false:=by simp [hM]
       have nM : (a2 != 0) = true:=by simp [hM]
       repeat (first | refine ZS ?_ | refine ZK tm fn_specs_ok rfl (by conv=>lhs; simp [c1,c2,c3,c4,eI,nI,hS,eM,nM]) fun _=>?_ | refine ZL tm fn_specs_ok rfl (by conv=>lhs; simp [c1,c2,c3,c4,eI,nI,hS,eM,nM]) fun _=>?_)
       simp only [eI,nI,hS,eM,nM,Bool.true_or,Bool.false_or,Bool.or_true,Bool.or_false,Bool.true_and,Bool.false_and,Bool.and_true,Bool.and_false,Bool.not_true,Bool.not_false]
       exact Yr
   | true =>
     cases hV : okM a3 with
     | false =>
       by_cases hW : a3 = 0
       · have eW : (a3 == 0) = true:=by simp [hW]
         have nW : (a3 != 0) = false:=by simp [hW]
         cases hP : a4 with
         | false =>
           cases hD : a5 with
           | false =>
             repeat (first | refine ZS ?_ | refine ZK tm fn_specs_ok rfl (by conv=>lhs; simp [c1,c2,c3,c4,eI,nI,hS,hV,eW,nW,hP,hD]) fun _=>?_ | refine ZL tm fn_specs_ok rfl (by conv=>lhs; simp [c1,c2,c3,c4,eI,nI,hS,hV,eW,nW,hP,hD]) fun _=>?_)
             simp only [eI,nI,hS,hV,eW,nW,hP,hD,Bool.true_or,Bool.false_or,Bool.or_true,Bool.or_false,Bool.true_and,Bool.false_and,Bool.and_true,Bool.and_false,Bool.not_true,Bool.not_false]
             exact Yr
           | true =>
             repeat (first | refine ZS ?_ | refine ZK tm fn_specs_ok rfl (by conv=>lhs; simp [c1,c2,c3,c4,eI,nI,hS,hV,eW,nW,hP,hD]) fun _=>?_ | refine ZL tm fn_specs_ok rfl (by conv=>lhs; simp [c1,c2,c3,c4,eI,nI,hS,hV,eW,nW,hP,hD]) fun _=>?_)
             simp only [eI,nI,hS,hV,eW,nW,hP,hD,Bool.true_or,Bool.false_or,Bool.or_true,Bool.or_false,Bool.true_and,Bool.false_and,Bool.and_true,Bool.and_false,Bool.not_true,Bool.not_false]
             exact Yr
         | true =>
           cases hD : a5 with
           | false =>
             repeat (first | refine ZS ?_ | refine ZK tm fn_specs_ok rfl (by conv=>lhs; simp [c1,c2,c3,c4,eI,nI,hS,hV,eW,nW,hP,hD]) fun _=>?_ | refine ZL tm fn_specs_ok rfl (by conv=>lhs; simp [c1,c2,c3,c4,eI,nI,hS,hV,eW,nW,hP,hD]) fun _=>?_)
             simp only [eI,nI,hS,hV,eW,nW,hP,hD,Bool.true_or,Bool.false_or,Bool.or_true,Bool.or_false,Bool.true_and,Bool.false_and,Bool.and_true,Bool.and_false,Bool.not_true,Bool.not_false]
             exact Yr
           | true =>
             repeat (first | refine ZS ?_ | refine ZK tm fn_specs_ok rfl (by conv=>lhs; simp [c1,c2,c3,c4,eI,nI,hS,hV,eW,nW,hP,hD]) fun _=>?_ | refine ZL tm fn_specs_ok rfl (by conv=>lhs; simp [c1,c2,c3,c4,eI,nI,hS,hV,eW,nW,hP,hD]) fun _=>?_)
             simp only [eI,nI,hS,hV,eW,nW,hP,hD,Bool.true_or,Bool.false_or,Bool.or_true,Bool.or_false,Bool.true_and,Bool.false_and,Bool.and_true,Bool.and_false,Bool.not_true,Bool.not_false]
             exact Yr
       · have eW : (a3 == 0) = false:=by simp [hW]
         have nW : (a3 != 0) = true:=by simp [hW]
         repeat (first | refine ZS ?_ | refine ZK tm fn_specs_ok rfl (by conv=>lhs; simp [c1,c2,c3,c4,eI,nI,hS,hV,eW,nW]) fun _=>?_ | refine ZL tm fn_specs_ok rfl (by conv=>lhs; simp [c1,c2,c3,c4,eI,nI,hS,hV,eW,nW]) fun _=>?_)
         simp only [eI,nI,hS,hV,eW,nW,Bool.true_or,Bool.false_or,Bool.or_true,Bool.or_false,Bool.true_and,Bool.false_and,Bool.and_true,Bool.and_false,Bool.not_true,Bool.not_false]
         exact Yr
     | true =>
       by_cases hG : a3 ≤ a2
       · have eG : decide (a3 ≤ a2) = true:=by simp [hG]
         repeat (first | refine ZS ?_ | refine ZK tm fn_specs_ok rfl (by conv=>lhs; simp [c1,c2,c3,c4,eI,nI,hS,hV,eG,hG]) fun _=>?_ | refine ZL tm fn_specs_ok rfl (by conv=>lhs; simp [c1,c2,c3,c4,eI,nI,hS,hV,eG,hG]) fun _=>?_)
         simp only [eI,nI,hS,hV,eG,Bool.true_or,Bool.false_or,Bool.or_true,Bool.or_false,Bool.true_and,Bool.false_and,Bool.and_true,Bool.and_false,Bool.not_true,Bool.not_false]
         exact Yr
       · have eG : decide (a3 ≤ a2) = false:=by simp [hG]
         cases hP : a4 with
         | false =>
           cases hD : a5 with
           | false =>
             repeat (first | refine ZS ?_ | refine ZK tm fn_specs_ok rfl (by conv=>lhs; simp [c1,c2,c3,c4,eI,nI,hS,hV,eG,hG,hP,hD]) fun _=>?_ | refine ZL tm fn_specs_ok rfl (by conv=>lhs; simp [c1,c2,c3,c4,eI,nI,hS,hV,eG,hG,hP,hD]) fun _=>?_)
             simp only [eI,nI,hS,hV,eG,hP,hD,Bool.true_or,Bool.false_or,Bool.or_true,Bool.or_false,Bool.true_and,Bool.false_and,Bool.and_true,Bool.and_false,Bool.not_true,Bool.not_false]
             exact Yr
           | true =>
             repeat (first | refine ZS ?_ | refine ZK tm fn_specs_ok rfl (by conv=>lhs; simp [c1,c2,c3,c4,eI,nI,hS,hV,eG,hG,hP,hD]) fun _=>?_ | refine ZL tm fn_specs_ok rfl (by conv=>lhs; simp [c1,c2,c3,c4,eI,nI,hS,hV,eG,hG,hP,hD]) fun _=>?_)
             simp only [eI,nI,hS,hV,eG,hP,hD,Bool.true_or,Bool.false_or,Bool.or_true,Bool.or_false,Bool.true_and,Bool.false_and,Bool.and_true,Bool.and_false,Bool.not_true,Bool.not_false]
             exact Yr
         | true =>
           cases hD : a5 with
           | false =>
             repeat (first | refine ZS ?_ | refine ZK tm fn_specs_ok rfl (by conv=>lhs; simp [c1,c2,c3,c4,eI,nI,hS,hV,eG,hG,hP,hD]) fun _=>?_ | refine ZL tm fn_specs_ok rfl (by conv=>lhs; simp [c1,c2,c3,c4,eI,nI,hS,hV,eG,hG,hP,hD]) fun _=>?_)
             simp only [eI,nI,hS,hV,eG,hP,hD,Bool.true_or,Bool.false_or,Bool.or_true,Bool.or_false,Bool.true_and,Bool.false_and,Bool.and_true,Bool.and_false,Bool.not_true,Bool.not_false]
             exact Yr
           | true =>
             repeat (first | refine ZS ?_ | refine ZK tm fn_specs_ok rfl (by conv=>lhs; simp [c1,c2,c3,c4,eI,nI,hS,hV,eG,hG,hP,hD]) fun _=>?_ | refine ZL tm fn_specs_ok rfl (by conv=>lhs; simp [c1,c2,c3,c4,eI,nI,hS,hV,eG,hG,hP,hD]) fun _=>?_)
             simp only [eI,nI,hS,hV,eG,hP,hD,Bool.true_or,Bool.false_or,Bool.or_true,Bool.or_false,Bool.true_and,Bool.false_and,Bool.and_true,Bool.and_false,Bool.not_true,Bool.not_false]
             exact Yr
theorem okM_0 : okM 0 = false := by decide
theorem fineI_eq (t : Tok) : fineI t = fineR t := by
 obtain ⟨a1,a2,o,a3,a4,a5⟩:=t
 simp only [fineI,fineR]
 generalize zO? o = z
 generalize oid o = oi
 have e1 : decide (a3 ≤ a2) = !decide (a2 < a3):=by
   by_cases h : a2 < a3 <;> simp [h] <;> omega
 have e2 : okM a2 = true → (a2 == 0) = false:=fun h=>by
   by_cases h0 : a2 = 0
   · subst h0; rw [okM_0] at h; cases h
   · simp [h0]
 have e3 : okM a3 = true → (a3 == 0) = false:=fun h=>by
   by_cases h0 : a3 = 0
   · subst h0; rw [okM_0] at h; cases h
   · simp [h0]
 rw [e1]
 simp only [bne]
 generalize decide (a2 < a3) = g
 generalize okM a2 = s at *
 generalize okM a3 = w at *
 generalize (a2 == 0) = m at *
 generalize (a3 == 0) = v at *
 generalize (a1 == 0) = i at *
 generalize (oi == a1) = e at *
 revert e2 e3
 clear e1
 revert z g s w m v i e a4 a5
 decide
end
section
attribute [local simp] instA
noncomputable def good (l : List Tok) (j : Nat) : Bool := match l[j]? with
 | none=>true
 | some t=>fineR t && match j with
   | 0=>true
   | i + 1=>match l[i]? with
     | some s=>decide (s.id < t.id)
     | none=>true
noncomputable def valid (nd : Int) (l : List Tok) : Bool := (List.range l.length).all (good l) && okN nd
theorem valid_no {nd : Int} {l : List Tok} {k : Nat} (h : k < l.length) (hg : good l k = false) : valid nd l = false := by
 unfold valid
 have : (List.range l.length).all (good l) = false:=by
   rw [List.all_eq_false]
   exact ⟨k,List.mem_range.2 h,by simp [hg]⟩
 rw [this,Bool.false_and]
theorem valid_yes {nd : Int} {l : List Tok} (h : ∀ k,k < l.length → good l k = true) : valid nd l = okN nd := by
 unfold valid
 have : (List.range l.length).all (good l) = true:=by
   rw [List.all_eq_true]
   exact fun k hk=>h k (List.mem_range.1 hk)
 rw [this,Bool.true_and]
noncomputable def vaS : SpecFn := mkS (fun d : Tks => [d.v]) fun d => (.bool (valid d.node d.toks),[])
theorem vaS_eq (d : Tks) : vaS [d.v] [] = some (.bool (valid d.node d.toks),[]) :=
 mkS_eq (enc:=fun d : Tks=>[d.v]) (fun x y h=>by
   simp only [List.cons.injEq,and_true] at h
   cases Tks.v_inj h
   rfl) d
theorem toS_eqI (d : Tok) : toS fineI [.agg d.c] [] = some (.bool (fineR d),[]) := by rw [toS_eq,fineI_eq]
noncomputable def vap_specs : NL Spec := [(43,⟨1,toS fineI⟩),(26,⟨1,boS okN⟩)]
theorem vap_specs_ok : ∀ p ∈ vap_specs,FnC Try.prog p.1 p.2.fn := by
 simp only [vap_specs,List.mem_cons,List.not_mem_nil,or_false]
 rintro p (rfl | rfl)
 · exact fn_ok
 · exact no1_ok
attribute [local simp] vap_specs
theorem vap_ok : FnC Try.prog 18 vaS := by
 refine FnC.walk 18 (fn:=Try.f18) Try.func18 rfl (by kernel_rfl) fun d=>?_
 obtain ⟨nd,l,hl⟩:=d
 have cn:=boS_eq okN nd
 change W _ (Ret _ _ (.bool (valid nd l)) []) _ _ ⟨36,[(0, .agg [.int .i64 nd, .list 41 (l.map Tok.c)])],[]⟩
 have cap : l.length ≤ 9223372036854775807:=by have:=capT (n:=l.length) (by omega); exact this
 repeat (first | refine ZS ?_ | refine ZK tm vap_specs_ok rfl (by conv=>lhs; simp [cap]) fun _=>?_ | refine ZL tm vap_specs_ok rfl (by conv=>lhs; simp [cap]) fun _=>?_)
 refine W.loop rfl (ι:={ q : Nat × NL ABlk // q.1 ≤ l.length ∧ (∀ j,j < q.1 → good l j = true) ∧ lk q.2 32 = some { gen:=1,kind:=2,elem:=30,size:=2,inl:=false,rows:=[[.int .i64 nd, .list 41 (l.map Tok.c)]] } })
   (fun q=>⟨36,[(1, .ptr 32 1 0 0),(6, .list 41 (l.map Tok.c)),(7, .int .i64 l.length),(8, .int .i64 (q.1.1 : Nat))],q.1.2⟩) (fun q=>l.length - q.1.1)
   ⟨(0,_),by simp,fun j hj=>absurd hj (by simp),rfl⟩ (AS.le_of rfl ⟨rfl,rfl,rfl,rfl,trivial⟩ (fun _=>rfl)) ?_
 rintro ⟨⟨k,h⟩,hk,hg,h1⟩
 dsimp only at hk hg h1 ⊢
 by_cases hk2 : k = l.length
 · subst hk2
   rw [valid_yes hg]
   repeat (first | refine ZS ?_ | refine ZK tm vap_specs_ok rfl (by conv=>lhs; simp [h1,cn]) fun _=>?_ | refine ZL tm vap_specs_ok rfl (by conv=>lhs; simp [h1,cn]) fun _=>?_)
   exact Yr
 · have hlt : k < l.length:=by omega
   obtain ⟨t,hr⟩:=get_lt hlt
   have hm : (l.map Tok.c)[k]? = some t.c:=by rw [List.getElem?_map,hr]; rfl
   have q1 : (k : Int) < l.length:=by omega
   have q2 : ¬ l.length ≤ k:=by omega
   have hw : IntKind.i64.wrap ((k : Int) + 1) = ((k + 1 : Nat) : Int):=w64 (by omega) (by omega)
   have cf:=toS_eqI t
   obtain ⟨a1,a2,o,a3,a4,a5⟩:=t
   simp only [Tok.c] at cf
   cases hf : fineR ⟨a1,a2,o,a3,a4,a5⟩ with
   | false =>
     rw [hf] at cf
     rw [valid_no hlt (by simp [good,hr,hf])]
     repeat (first | refine ZS ?_ | refine ZK tm vap_specs_ok rfl (by conv=>lhs; simp [q1,q2,hm,h1,cf]) fun _=>?_ | refine ZL tm vap_specs_ok rfl (by conv=>lhs; simp [q1,q2,hm,h1,cf]) fun _=>?_)
     exact Yr
   | true =>
     rw [hf] at cf
     by_cases hz : k = 0
     · have hgk : good l k = true:=by subst hz; simp [good,hr,hf]
       have hgn : ∀ j,j < k + 1 → good l j = true:=fun j hj=>by
         have h0 : j = k:=by omega
         subst h0
         exact hgk
       have q5 : ¬ (0 : Int) < (k : Int):=by omega
       have q6 : ¬ 0 < k:=by omega
       repeat (first | refine ZS ?_ | refine ZK tm vap_specs_ok rfl (by conv=>lhs; simp [q1,q2,q5,q6,hm,h1,cf,hw]) fun _=>?_ | refine ZL tm vap_specs_ok rfl (by conv=>lhs; simp [q1,q2,q5,q6,hm,h1,cf,hw]) fun _=>?_)
       exact ⟨⟨(k + 1,_),hlt,hgn,by simp [lk_st,h1]⟩,by dsimp only; omega,AS.le_of rfl ⟨rfl,rfl,rfl,rfl,trivial⟩ (fun _=>rfl)⟩
     · obtain ⟨j,hj⟩ : ∃ j,k = j + 1:=⟨k - 1,by omega⟩
       obtain ⟨s,hs⟩:=get_lt (l:=l) (i:=j) (by omega)
       have hms : (l.map Tok.c)[j]? = some s.c:=by rw [List.getElem?_map,hs]; rfl
       have q3 : ¬ l.length ≤ j:=by omega
       have q4 : (0 : Int) < (k : Int):=by omega
       have q4' : 0 < k:=by omega
       have hd : IntKind.i64.wrap ((k : Int) - 1) = (j : Int):=by rw [w64 (by omega) (by omega)]; omega
       have q1' : (j : Int) < l.length:=by omega
       obtain ⟨b1,b2,p,b3,b4,b5⟩:=s
       by_cases hc : b1 < a1
       · have hgk : good l k = true:=by subst hj; simp [good,hr,hf,hs,hc]
         have hc2 : ¬ a1 ≤ b1:=by omega
         have hgn : ∀ i,i < k + 1 → good l i = true:=fun i hi=>by
           by_cases e : i = k
           · subst e
             exact hgk
           · exact hg i (by omega)
         repeat (first | refine ZS ?_ | refine ZK tm vap_specs_ok rfl (by conv=>lhs; simp [q1,q1',q2,q3,q4,q4',hm,hms,h1,cf,hw,hd,hc2]) fun _=>?_ | refine ZL tm vap_specs_ok rfl (by conv=>lhs; simp [q1,q1',q2,q3,q4,q4',hm,hms,h1,cf,hw,hd,hc2]) fun _=>?_)
         exact ⟨⟨(k + 1,_),hlt,hgn,by simp [lk_st,h1]⟩,by dsimp only; omega,AS.le_of rfl ⟨rfl,rfl,rfl,rfl,trivial⟩ (fun _=>rfl)⟩
       · rw [valid_no hlt (by subst hj; simp [good,hr,hf,hs,hc])]
         have hc2 : a1 ≤ b1:=by omega
         repeat (first | refine ZS ?_ | refine ZK tm vap_specs_ok rfl (by conv=>lhs; simp [q1,q1',q2,q3,q4,q4',hm,hms,h1,cf,hw,hd,hc2]) fun _=>?_ | refine ZL tm vap_specs_ok rfl (by conv=>lhs; simp [q1,q1',q2,q3,q4,q4',hm,hms,h1,cf,hw,hd,hc2]) fun _=>?_)
         exact Yr
end
section
attribute [local simp] instA
attribute [-simp] mkv
attribute [local simp] mkv_hd hdA_cons hdA_ob hdA_ob'
def rT (n : Int) (l : List Tok) (e : Int) : AV := .tup [.agg [.int .i64 n, .list 41 (l.map Tok.c)], .int .i64 e]
theorem tksLeafs : leafs Try.prog 30 = [3,28] := lf30
theorem tks_nrmV (n : Int) (l : List Tok) : nrmV Try.prog 30 (.agg [.int .i64 n, .list 41 (l.map Tok.c)]) = .agg [.int .i64 n, .list 41 (l.map Tok.c)] := tks_nrmR n l
theorem tks_nrmV0 (n : Int) : nrmV Try.prog 30 (.agg [.int .i64 n, .nils]) = .agg [.int .i64 n, .list 41 ([].map Tok.c)] := tks_nrm0 n
theorem rT_nrm (n : Int) (l : List Tok) (e : Int) : nrmR Try.prog [30,38] (rT n l e) = rT n l e := by
 simp only [rT,nrmR,nrmL,tks_nrmV]
 simp only [nrmV]
theorem rT_nrm0 (e : Int) : nrmR Try.prog [30,38] (.tup [.agg [.int .i64 0, .nils], .int .i64 e]) = rT 0 [] e := by
 simp only [rT,nrmR,nrmL,tks_nrmV0]
 simp only [nrmV]
noncomputable def pinL (d : Tks) (id m : Int) : Int × List Tok × Int :=
 if valid d.node d.toks = false then (0,[],1) else if okM m = false then (0,[],2) else
   let t:=(fnd id d.toks).getD (tok0 id)
   if t.mode < m then (0,[],6) else (d.node,put { t with pin:=true } d.toks,0)
noncomputable def pinS : SpecFn := mkS (fun d : Tks × Int × Int => [d.1.v, .int .u64 d.2.1, .int .i64 d.2.2]) fun d => (rT (pinL d.1 d.2.1 d.2.2).1 (pinL d.1 d.2.1 d.2.2).2.1 (pinL d.1 d.2.1 d.2.2).2.2,[])
theorem pinS_eq (d : Tks) (id m : Int) : pinS [d.v, .int .u64 id, .int .i64 m] [] = some (rT (pinL d id m).1 (pinL d id m).2.1 (pinL d id m).2.2,[]) :=
 mkS_eq (enc:=fun d : Tks × Int × Int=>[d.1.v, .int .u64 d.2.1, .int .i64 d.2.2]) (fun x y h=>by
   obtain ⟨a,b,c⟩:=x
   obtain ⟨a',b',c'⟩:=y
   simp only [List.cons.injEq,AV.int.injEq,true_and,and_true] at h
   obtain ⟨h,rfl,rfl⟩:=h
   cases Tks.v_inj h
   rfl) (d,id,m)
noncomputable def putoL (d : Tks) (id : Int) (o : Ob) : Int × List Tok × Int :=
 if valid d.node d.toks = false then (0,[],1) else
   let t:=(fnd id d.toks).getD (tok0 id)
   if t.mode = 2 then if zO? o = false ∧ oid o ≠ id then (0,[],10) else (d.node,put { t with obj:=o } d.toks,0) else (0,[],8)
noncomputable def putoS : SpecFn := mkS (fun d : Tks × Int × Ob => [d.1.v, .int .u64 d.2.1, .agg d.2.2.cells]) fun d => (rT (putoL d.1 d.2.1 d.2.2).1 (putoL d.1 d.2.1 d.2.2).2.1 (putoL d.1 d.2.1 d.2.2).2.2,[])
theorem putoS_eq (d : Tks) (id : Int) (o : Ob) : putoS [d.v, .int .u64 id, .agg o.cells] [] = some (rT (putoL d id o).1 (putoL d id o).2.1 (putoL d id o).2.2,[]) :=
 mkS_eq (enc:=fun d : Tks × Int × Ob=>[d.1.v, .int .u64 d.2.1, .agg d.2.2.cells]) (fun x y h=>by
   obtain ⟨a,b,c⟩:=x
   obtain ⟨a',b',c'⟩:=y
   simp only [List.cons.injEq,AV.int.injEq,AV.agg.injEq,true_and,and_true] at h
   obtain ⟨h,rfl,h2⟩:=h
   cases Tks.v_inj h
   cases Td.ext h2
   rfl) (d,id,o)
end
section
attribute [local simp] instA binOpA
def sp0 (id : Int) : Int := IntKind.i64.wrap (id.fdiv (2 ^ min 56 IntKind.u64.bits))
def sp1 (id : Int) : Int := IntKind.i64.wrap (IntKind.u64.wrap ↑((id.fdiv (2 ^ min 40 IntKind.u64.bits) % 2 ^ IntKind.u64.bits).toNat &&& 65535 % 2 ^ IntKind.u64.bits))
def sp2 (id : Int) : Int := IntKind.i64.wrap (IntKind.u64.wrap ↑((id % 2 ^ IntKind.u64.bits).toNat &&& 1099511627775 % 2 ^ IntKind.u64.bits))
noncomputable def spS : SpecFn := mkS (fun d : Int => [.int .u64 d]) fun d => (.tup [.int .i64 (sp0 d), .int .i64 (sp1 d), .int .i64 (sp2 d)],[])
theorem spS_eq (id : Int) : spS [.int .u64 id] [] = some (.tup [.int .i64 (sp0 id), .int .i64 (sp1 id), .int .i64 (sp2 id)],[]) :=
 mkS_eq (enc:=fun d : Int=>[AV.int .u64 d]) (fun x y h=>by
   simp only [List.cons.injEq,AV.int.injEq,true_and,and_true] at h
   rw [h]) id
theorem sp_ref : FnC Try.prog 80 spS := by
 refine FnC.walk 80 (fn:=Try.f80) Try.func80 rfl (by kernel_rfl) fun id=>?_
 change W _ (Ret _ _ (.tup [.int .i64 (sp0 id), .int .i64 (sp1 id), .int .i64 (sp2 id)]) []) _ _ ⟨15,[(0, .int .u64 id)],[]⟩
 repeat (first | refine ZS ?_ | refine ZK tm no_specs rfl (by conv=>lhs; simp) fun _=>?_ | refine ZL tm no_specs rfl (by conv=>lhs; simp) fun _=>?_)
 simp only [sp0,sp1,sp2]
 exact Yr
theorem sp_id : FnC Try.prog 19 spS := by
 refine FnC.walk 19 (fn:=Try.f19) Try.func19 rfl (by kernel_rfl) fun id=>?_
 change W _ (Ret _ _ (.tup [.int .i64 (sp0 id), .int .i64 (sp1 id), .int .i64 (sp2 id)]) []) _ _ ⟨15,[(0, .int .u64 id)],[]⟩
 repeat (first | refine ZS ?_ | refine ZK tm no_specs rfl (by conv=>lhs; simp) fun _=>?_ | refine ZL tm no_specs rfl (by conv=>lhs; simp) fun _=>?_)
 simp only [sp0,sp1,sp2]
 exact Yr
attribute [-simp] mkv
attribute [local simp] mkv_hd hdA_cons hdA_ob hdA_ob'
noncomputable def mkeL (d : Tks) (o : Ob) : Int × List Tok × Int :=
 if valid d.node d.toks = false then (0,[],1) else if oid o = 0 then (0,[],2) else if sp0 (oid o) ≠ d.node then (0,[],10) else
   let t:=(fnd (oid o) d.toks).getD (tok0 (oid o))
   if t.mode ≠ 0 then (0,[],7) else if t.want ≠ 0 then (0,[],7) else (d.node,put ⟨oid o,2,o,0,false,false⟩ d.toks,0)
noncomputable def mkeS : SpecFn := mkS (fun d : Tks × Ob => [d.1.v, .agg d.2.cells]) fun d => (rT (mkeL d.1 d.2).1 (mkeL d.1 d.2).2.1 (mkeL d.1 d.2).2.2,[])
theorem mkeS_eq (d : Tks) (o : Ob) : mkeS [d.v, .agg o.cells] [] = some (rT (mkeL d o).1 (mkeL d o).2.1 (mkeL d o).2.2,[]) :=
 mkS_eq (enc:=fun d : Tks × Ob=>[d.1.v, .agg d.2.cells]) (fun x y h=>by
   obtain ⟨a,c⟩:=x
   obtain ⟨a',c'⟩:=y
   simp only [List.cons.injEq,AV.agg.injEq,and_true] at h
   obtain ⟨h,h2⟩:=h
   cases Tks.v_inj h
   cases Td.ext h2
   rfl) (d,o)
end
section
attribute [local simp] instA
attribute [-simp] mkv
attribute [local simp] mkv_hd hdA_cons hdA_ob hdA_ob'
structure Msg where
 fr : Int
 to : Int
 kind : Int
 id : Int
 mode : Int
 obj : Ob
 a : Int
 b : Int
 c : Int
 e : Int
@[simp] def Msg.v (m : Msg) : List AV := .int .i64 m.fr :: .int .i64 m.to :: .int .i64 m.kind :: .int .u64 m.id :: .int .i64 m.mode :: (m.obj.cells ++ [.int .u64 m.a, .int .i64 m.b, .int .u64 m.c, .int .i64 m.e])
theorem msgLeafs : leafs Try.prog 75 = 3 :: 3 :: 3 :: 41 :: 3 :: (leafs Try.prog 60 ++ [41,2,41,3]) := by rw [lf75,lf60]; rfl
theorem msg_nrm (m : Msg) : nrmL Try.prog (leafs Try.prog 75) m.v = m.v := by
 rw [msgLeafs]
 simp only [Msg.v,nrmL]
 rw [nrmL_append _ _ _ _ m.obj.len'.symm,m.obj.nrmL]
 simp [nrmL,nrmV]
theorem msg_nrm0 (f t k i m : Int) : nrmL Try.prog (leafs Try.prog 75) (.int .i64 f :: .int .i64 t :: .int .i64 k :: .int .u64 i :: .int .i64 m :: (zO ++ [.int .u64 0, .int .i64 0, .int .u64 0, .int .i64 0])) = (⟨f,t,k,i,m,zOb,0,0,0,0⟩ : Msg).v := by
 rw [msgLeafs]
 simp only [Msg.v,nrmL]
 rw [nrmL_append _ _ _ _ (by rw [obLeafs]; rfl),zN_eq]
 simp [nrmL,nrmV,zOb]
noncomputable def bckM (nd : Int) (t : Tok) (to : Int) : Msg := ⟨nd,to,4,t.id,t.mode,if t.mode = 2 then t.obj else zOb,0,0,0,0⟩
noncomputable def bckT (t : Tok) : Tok := ⟨t.id,0,zOb,t.want,false,false⟩
end
end Go.Abs.Np
