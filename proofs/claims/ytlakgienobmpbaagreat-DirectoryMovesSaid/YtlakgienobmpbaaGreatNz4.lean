/- Dice. Conditions: none. -/
import Derived.Test.YtlakgienobmpbaaGreatNz3
import Derived.Test.YtlakgienobmpbaaGreatAb8
import Derived.Shelf.Sort.Plain
import Derived.Test.YtlakgienobmpbaaGreatProg
import Derived.Test.YtlakgienobmpbaaGreatAb9
namespace Go.Abs.Nz
open Go Go.Proofs Go.Abs
set_option maxRecDepth 100000
set_option maxHeartbeats 4000000
set_option linter.unusedSimpArgs false
set_option linter.unusedVariables false
def byte (b : UInt8) : List AV := [.int .u8 b.toNat]
theorem byte_inj (a b : UInt8) (h : byte a = byte b) : a = b := by
  simp only [byte, List.cons.injEq, AV.int.injEq, true_and, and_true] at h
  exact UInt8.toNat_inj.1 (by omega)
def diceB (l : List UInt8) : ABlk := { gen := 0, kind := 2, elem := 98, size := 1, rows := [[.list 1 (l.map byte)]] }
theorem diceB_inj {a b : List UInt8} (h : diceB a = diceB b) : a = b := by
  simp only [diceB, ABlk.mk.injEq, List.cons.injEq, AV.list.injEq, true_and, and_true] at h
  exact map_inj byte_inj h
def dn (l : List UInt8) (n : Int) : Int := match l with
  | [] => 0
  | b :: _ => if n ≤ 1 then 0 else (b.toNat : Int).tmod n
def dl (l : List UInt8) (n : Int) : List UInt8 := match l with
  | [] => []
  | b :: r => if n ≤ 1 then b :: r else r
theorem dn_nonneg (l : List UInt8) (n : Int) : 0 ≤ dn l n := by
  unfold dn
  split
  · omega
  · split
    · omega
    · exact Int.tmod_nonneg _ (by omega)
theorem dn_lt (l : List UInt8) {n : Int} (h : 0 < n) : dn l n < n := by
  unfold dn
  split
  · exact h
  · split
    · omega
    · exact Int.tmod_lt_of_pos _ h
def encD (x : List UInt8 × Int) : List AV × List ABlk := ([.ptr 0 0 0 0, .int .i64 x.2], [diceB x.1])
noncomputable def diceS : SpecFn := mkS2 encD fun x => (.int .i64 (dn x.1 x.2), [diceB (dl x.1 x.2)])
theorem diceS_eq (l : List UInt8) (n : Int) : diceS [.ptr 0 0 0 0, .int .i64 n] [diceB l] = some (.int .i64 (dn l n), [diceB (dl l n)]) :=
  mkS2_eq (enc := encD) (fun x y h => by
    simp only [encD, Prod.mk.injEq, List.cons.injEq, AV.int.injEq, true_and, and_true] at h
    rw [Prod.ext (diceB_inj h.2) h.1]) (l, n)
attribute [local simp] convertA sliceArrA sliceA bndA nilCheckA
theorem dice_ok : FnC Tryz.prog 10 diceS := by
  refine FnC.walkB 10 (fn := Tryz.f10) Tryz.func10 rfl (by kernel_rfl) (fun x b hb => by simp [encD] at hb; rw [hb]; rfl) fun x => ?_
  obtain ⟨l, n⟩ := x
  change W _ (RetB _ _ 1 _ _) _ _ ⟨34, [(0, .ptr 0 0 0 0), (1, .int .i64 n)], [(0, diceB l)]⟩
  cases l with
  | nil =>
    repeat (first | refine ZS ?_ | refine ZK tm no_specs rfl (by conv => lhs; simp [diceB]) fun _ => ?_ | refine ZL tm no_specs rfl (by conv => lhs; simp [diceB]) fun _ => ?_)
    simp only [dn, dl, diceB, List.map_nil]
    first | exact retE2_ok false (by conv => lhs; simp [retE2, frqT, frqV, frqVs, frqL, frq1, reachE, blkRefs, outE, nodupE, firstE, seqO, expB2, expF, refsB, refsL, AV.refs, AV.ren, renL, renB, List.range, List.range.loop, resVs, resV, pack]) | fail "no return here"
  | cons b r =>
    have hne : (((r.length : Nat) : Int) + 1 == 0) = false := by simp; omega
    by_cases h : n ≤ 1
    · repeat (first | refine ZS ?_ | refine ZK tm no_specs rfl (by conv => lhs; simp [diceB, h, hne]) fun _ => ?_ | refine ZL tm no_specs rfl (by conv => lhs; simp [diceB, h, hne]) fun _ => ?_)
      simp only [dn, dl, diceB, if_pos h, List.map_cons]
      first | exact retE2_ok false (by conv => lhs; simp [retE2, frqT, frqV, frqVs, frqL, frq1, reachE, blkRefs, outE, nodupE, firstE, seqO, expB2, expF, refsB, refsL, AV.refs, AV.ren, renL, renB, List.range, List.range.loop, resVs, resV, pack]) | fail "no return here"
    · have wb : IntKind.i64.wrap (b.toNat : Int) = b.toNat := w64 (by omega) (by have := b.toNat_lt; omega)
      have h0 : ¬ n = 0 := by omega
      have ht : List.take r.length (r.map byte) = r.map byte := List.take_of_length_le (by simp)
      repeat (first | refine ZS ?_ | refine ZK tm no_specs rfl (by conv => lhs; simp [diceB, h, hne, byte, wb, h0, ht]) fun _ => ?_ | refine ZL tm no_specs rfl (by conv => lhs; simp [diceB, h, hne, byte, wb, h0, ht]) fun _ => ?_)
      simp only [dn, dl, diceB, if_neg h, List.map_cons]
      first | exact retE2_ok false (by conv => lhs; simp [retE2, frqT, frqV, frqVs, frqL, frq1, reachE, blkRefs, outE, nodupE, firstE, seqO, expB2, expF, refsB, refsL, AV.refs, AV.ren, renL, renB, List.range, List.range.loop, resVs, resV, pack]) | fail "no return here"
attribute [local simp] sliceArrA sliceA bndA mmA placesA
def encNw (l : List UInt8) : List AV × List ABlk := ([.list 1 (l.map byte)], [])
theorem encNw_inj : ∀ x y : List UInt8, encNw x = encNw y → x = y := fun x y h => by
  simp only [encNw, Prod.mk.injEq, List.cons.injEq, AV.list.injEq, true_and, and_true] at h
  exact map_inj byte_inj h
noncomputable def newS : SpecFn := mkS2 encNw fun l => (.ptr 0 0 0 0, [diceB (l.take 400)])
theorem newS_eq (l : List UInt8) : newS [.list 1 (l.map byte)] [] = some (.ptr 0 0 0 0, [diceB (l.take 400)]) := mkS2_eq (enc := encNw) (fun x y h => by rw [encNw_inj x y h]) l
theorem new_ok : FnC Tryz.prog 27 newS := by
  refine FnC.walkB 27 (fn := Tryz.f27) Tryz.func27 rfl (by kernel_rfl) (fun x b hb => by simp [encNw] at hb) fun l => ?_
  change W _ (RetB _ _ 0 _ _) _ _ ⟨10, [(0, .list 1 (l.map byte))], []⟩
  by_cases h : (400 : Int) < l.length
  · have h2 : 400 ≤ l.length := by omega
    repeat (first | refine ZS ?_ | refine ZK tm no_specs rfl (by conv => lhs; simp [h, h2]) fun _ => ?_ | refine ZL tm no_specs rfl (by conv => lhs; simp [h, h2]) fun _ => ?_)
    simp only [diceB, List.map_take]
    first | exact retE2_ok false (by conv => lhs; simp [retE2, frqT, frqV, frqVs, frqL, frq1, reachE, blkRefs, outE, nodupE, firstE, seqO, expB2, expF, refsB, refsL, AV.refs, AV.ren, renL, renB, List.range, List.range.loop, resVs, resV, pack]) | fail "no return here"
  · have h2 : l.length ≤ 400 := by omega
    have h3 : List.take l.length (l.map byte) = l.map byte := List.take_of_length_le (by simp)
    repeat (first | refine ZS ?_ | refine ZK tm no_specs rfl (by conv => lhs; simp [h, h3]) fun _ => ?_ | refine ZL tm no_specs rfl (by conv => lhs; simp [h, h3]) fun _ => ?_)
    simp only [diceB, List.take_of_length_le h2]
    first | exact retE2_ok false (by conv => lhs; simp [retE2, frqT, frqV, frqVs, frqL, frq1, reachE, blkRefs, outE, nodupE, firstE, seqO, expB2, expF, refsB, refsL, AV.refs, AV.ren, renL, renB, List.range, List.range.loop, resVs, resV, pack]) | fail "no return here"
end Go.Abs.Nz
namespace Go.Abs.Nz
open Go Go.Proofs Go.Abs
set_option maxRecDepth 100000
set_option maxHeartbeats 4000000
set_option linter.unusedSimpArgs false
set_option linter.unusedVariables false
attribute [local simp] instA binOpA
def mk3 (a b c : Int) : Int := IntKind.u64.wrap ↑((IntKind.u64.wrap ↑((IntKind.u64.wrap (IntKind.u64.wrap a * 2 ^ min 56 IntKind.u64.bits) % 2 ^ IntKind.u64.bits).toNat ||| (IntKind.u64.wrap (IntKind.u64.wrap b * 2 ^ min 40 IntKind.u64.bits) % 2 ^ IntKind.u64.bits).toNat) % 2 ^ IntKind.u64.bits).toNat ||| (IntKind.u64.wrap c % 2 ^ IntKind.u64.bits).toNat)
structure Idp where
  a : Int
  b : Int
  c : Int
  h1 : 0 ≤ a
  h2 : a ≤ 127
  h3 : 0 ≤ b
  h4 : b ≤ 65535
  h5 : 1 ≤ c
  h6 : c ≤ 1099511627775
noncomputable def mk3S : SpecFn := mkS (fun d : Idp => [.int .i64 d.a, .int .i64 d.b, .int .i64 d.c]) fun d => (.tup [.int .u64 (mk3 d.a d.b d.c), .int .i64 0], [])
theorem mk3S_eq (d : Idp) : mk3S [.int .i64 d.a, .int .i64 d.b, .int .i64 d.c] [] = some (.tup [.int .u64 (mk3 d.a d.b d.c), .int .i64 0], []) :=
  mkS_eq (enc := fun d : Idp => [AV.int .i64 d.a, .int .i64 d.b, .int .i64 d.c]) (fun x y h => by
    simp only [List.cons.injEq, AV.int.injEq, true_and, and_true] at h
    obtain ⟨h1, h2, h3⟩ := h
    rw [h1, h2, h3]) d
theorem mk3_ok : FnC Tryz.prog 60 mk3S := by
  refine FnC.walk 60 (fn := Tryz.f60) Tryz.func60 rfl (by kernel_rfl) fun d => ?_
  obtain ⟨a, b, c, h1, h2, h3, h4, h5, h6⟩ := d
  have n1 : ¬ a < 0 := by omega
  have n2 : ¬ 127 < a := by omega
  have n3 : ¬ b < 0 := by omega
  have n4 : ¬ 65535 < b := by omega
  have n5 : ¬ c < 1 := by omega
  have n6 : ¬ 1099511627775 < c := by omega
  change W _ (Ret _ _ (.tup [.int .u64 (mk3 a b c), .int .i64 0]) []) _ _ ⟨40, [(0, .int .i64 a), (1, .int .i64 b), (2, .int .i64 c)], []⟩
  repeat (first | refine ZS ?_ | refine ZK tm no_specs rfl (by conv => lhs; simp [n1, n2, n3, n4, n5, n6]) fun _ => ?_ | refine ZL tm no_specs rfl (by conv => lhs; simp [n1, n2, n3, n4, n5, n6]) fun _ => ?_)
  simp only [mk3]
  first | exact Ret.dataR rfl (by conv => lhs; simp) (by conv => lhs; simp) (by first | rfl | simp [inlT, inlV]) | fail "no return here"
def d1 (l : List UInt8) : List UInt8 := dl l 3
def d2 (l : List UInt8) : List UInt8 := dl (d1 l) 2
def d3 (l : List UInt8) : List UInt8 := dl (d2 l) 9
def idV (l : List UInt8) : Int := mk3 (dn l 3) (dn (d1 l) 2) (1 + dn (d2 l) 9)
def encD1 (l : List UInt8) : List AV × List ABlk := ([.ptr 0 0 0 0], [diceB l])
noncomputable def idS : SpecFn := mkS2 encD1 fun l => (.int .u64 (idV l), [diceB (d3 l)])
theorem idS_eq (l : List UInt8) : idS [.ptr 0 0 0 0] [diceB l] = some (.int .u64 (idV l), [diceB (d3 l)]) :=
  mkS2_eq (enc := encD1) (fun x y h => by
    simp only [encD1, Prod.mk.injEq, List.cons.injEq, true_and, and_true] at h
    rw [diceB_inj h]) l
noncomputable def id_specs : NL Spec := [(10, ⟨3, diceS⟩), (60, ⟨1, mk3S⟩)]
theorem id_specs_ok : ∀ p ∈ id_specs, FnC Tryz.prog p.1 p.2.fn := by
  simp only [id_specs, List.mem_cons, List.not_mem_nil, or_false]
  rintro p (rfl | rfl)
  · exact dice_ok
  · exact mk3_ok
attribute [local simp] id_specs
theorem id_ok : FnC Tryz.prog 29 idS := by
  refine FnC.walkB 29 (fn := Tryz.f29) Tryz.func29 rfl (by kernel_rfl) (fun x b hb => by simp [encD1] at hb; rw [hb]; rfl) fun l => ?_
  change W _ (RetB _ _ 1 (.int .u64 (mk3 (dn l 3) (dn (d1 l) 2) (1 + dn (d2 l) 9))) [diceB (d3 l)]) _ _ ⟨17, [(0, .ptr 0 0 0 0)], [(0, diceB l)]⟩
  have c1 := diceS_eq l 3
  have c2 := diceS_eq (d1 l) 2
  have c3 := diceS_eq (d2 l) 9
  have u1 := dn_nonneg l 3
  have u2 := dn_nonneg (d1 l) 2
  have u3 := dn_nonneg (d2 l) 9
  have v1 := dn_lt l (n := 3) (by omega)
  have v2 := dn_lt (d1 l) (n := 2) (by omega)
  have v3 := dn_lt (d2 l) (n := 9) (by omega)
  change diceS _ _ = some (_, [diceB (d1 l)]) at c1
  change diceS _ _ = some (_, [diceB (d2 l)]) at c2
  change diceS _ _ = some (_, [diceB (d3 l)]) at c3
  generalize dn l 3 = a at *
  generalize dn (d1 l) 2 = b at *
  generalize dn (d2 l) 9 = c at *
  generalize d3 l = e3 at *
  generalize d2 l = e2 at *
  generalize d1 l = e1 at *
  have cm := mk3S_eq ⟨a, b, 1 + c, u1, by omega, u2, by omega, by omega, by omega⟩
  have hw : IntKind.i64.wrap (1 + c) = 1 + c := w64 (by omega) (by omega)
  simp only [diceB] at c1 c2 c3
  dsimp only at cm
  repeat (first | refine ZS ?_ | refine ZK tm id_specs_ok rfl (by conv => lhs; simp [diceB, c1, c2, c3, cm, hw]) fun _ => ?_ | refine ZL tm id_specs_ok rfl (by conv => lhs; simp [diceB, c1, c2, c3, cm, hw]) fun _ => ?_)
  simp only [diceB]
  first | exact retE2_ok false (by conv => lhs; simp [retE2, frqT, frqV, frqVs, frqL, frq1, reachE, blkRefs, outE, nodupE, firstE, seqO, expB2, expF, refsB, refsL, AV.refs, AV.ren, renL, renB, List.range, List.range.loop, resVs, resV, pack]) | fail "no return here"
end Go.Abs.Nz
namespace Go.Abs.Nz
open Go Go.Proofs Go.Abs
set_option maxRecDepth 100000
set_option maxHeartbeats 4000000
set_option linter.unusedSimpArgs false
set_option linter.unusedVariables false
attribute [local simp] instA
attribute [-simp] mkv
attribute [local simp] mkv_hd hdA_cons hdA_ob hdA_ob'
end Go.Abs.Nz
namespace Go.Abs.Nz
open Go Go.Proofs Go.Abs
set_option maxRecDepth 100000
set_option maxHeartbeats 4000000
set_option linter.unusedSimpArgs false
set_option linter.unusedVariables false
attribute [local simp] instA
attribute [-simp] mkv
attribute [local simp] mkv_hd hdA_cons hdA_ob hdA_ob'
end Go.Abs.Nz
namespace Go.Abs.Nz
open Go Go.Proofs Go.Abs
set_option maxRecDepth 100000
set_option maxHeartbeats 4000000
set_option linter.unusedSimpArgs false
set_option linter.unusedVariables false
attribute [local simp] instA
attribute [-simp] mkv
attribute [local simp] mkv_hd hdA_cons hdA_ob hdA_ob'
end Go.Abs.Nz
namespace Go.Abs.Nz
open Go Go.Proofs Go.Abs
set_option linter.unusedSimpArgs false
set_option linter.unusedVariables false
end Go.Abs.Nz
namespace Go.Abs.Nz
open Go Go.Proofs Go.Abs
set_option maxRecDepth 100000
set_option maxHeartbeats 4000000
set_option linter.unusedSimpArgs false
set_option linter.unusedVariables false
attribute [local simp] instA
attribute [-simp] mkv
attribute [local simp] mkv_hd hdA_cons hdA_ob hdA_ob'
noncomputable def pn1S : SpecFn := mkS (fun d : Tok => [.agg d.c]) fun d => (.agg ({ d with pin := true } : Tok).c, [])
def obB (o : Ob) : ABlk := { gen := 0, kind := 2, elem := 44, size := 36, inl := false, rows := [o.cells] }
def encO (d : Tok × Ob) : List AV × List ABlk := ([.agg d.1.c, .ptr 0 0 0 0], [obB d.2])
noncomputable def pt_specs : NL Spec := [(45, ⟨1, cobS⟩)]
attribute [local simp] pt_specs
noncomputable def pu1S : SpecFn := mkS2 encO fun d => (.agg ({ d.1 with obj := d.2 } : Tok).c, [obB d.2])
end Go.Abs.Nz
namespace Go.Abs.Nz
open Go Go.Proofs Go.Abs
set_option maxRecDepth 100000
set_option maxHeartbeats 4000000
set_option linter.unusedSimpArgs false
set_option linter.unusedVariables false
attribute [local simp] instA
end Go.Abs.Nz
namespace Go.Abs.Nz
open Go Go.Proofs Go.Abs
set_option maxRecDepth 100000
set_option maxHeartbeats 4000000
set_option linter.unusedSimpArgs false
set_option linter.unusedVariables false
attribute [local simp] instA
def iC (m : Int) : List AV := [.int .i64 m]
end Go.Abs.Nz
namespace Go.Abs.Nz
open Go Go.Proofs Go.Abs
set_option maxRecDepth 100000
set_option maxHeartbeats 4000000
set_option linter.unusedSimpArgs false
set_option linter.unusedVariables false
theorem AVi {k : IntKind} {a b : Int} (h : AV.int k a = AV.int k b) : a = b := by cases h; rfl
theorem AVg {a b : List AV} (h : AV.agg a = AV.agg b) : a = b := by cases h; rfl
theorem AVl {n : Nat} {a b : List (List AV)} (h : AV.list n a = AV.list n b) : a = b := by cases h; rfl
theorem map_inj' {α β : Type} {f : α → β} (hf : ∀ a b, f a = f b → a = b) : ∀ {s t : List α}, s.map f = t.map f → s = t
  | [], [], _ => rfl
  | [], _ :: _, h => by simp at h
  | _ :: _, [], h => by simp at h
  | x :: r, y :: q, h => by
    simp only [List.map_cons, List.cons.injEq] at h
    rw [hf _ _ h.1, map_inj' hf h.2]
end Go.Abs.Nz
namespace Go.Abs.Nz
open Go Go.Proofs Go.Abs
set_option maxRecDepth 100000
set_option maxHeartbeats 4000000
set_option linter.unusedSimpArgs false
set_option linter.unusedVariables false
attribute [local simp] slice3A slice3C instA
end Go.Abs.Nz
namespace Go.Abs.Nz
open Go Go.Proofs Go.Abs
set_option maxRecDepth 100000
set_option maxHeartbeats 4000000
set_option linter.unusedSimpArgs false
set_option linter.unusedVariables false
attribute [local simp] instA
noncomputable def nan64R (x : Int) : AV := .bool false
noncomputable def nan64S : SpecFn := mkS (fun p : Int => [.int .u64 p]) fun p => (nan64R p, [])
theorem nan64_eq (x : Int) : nan64S [.int .u64 x] [] = some (nan64R (x), []) :=
  mkS_eq (enc := fun p : Int => [.int .u64 p]) (res := fun p => (nan64R p, [])) (fun x y h => by
    obtain ⟨h0, h⟩ := List.cons.inj h
    have e0 := AVi h0
    subst e0
    rfl) (x)
theorem nan64_ok : FnC Tryz.prog 171 nan64S := by
  refine FnC.walk 171 (fn := Tryz.f171) Tryz.func171 rfl (by kernel_rfl) fun p => ?_
  revert p; intro x
  change W _ (Ret _ _ (nan64R (x)) []) _ _ ⟨6, [(0, .int .u64 x)], []⟩
  repeat' (first | refine ZV ?_ | refine ZB tm no_specs ?_ | refine ZH (fun hb => ?_) (fun hb => ?_) | refine ZJ (by conv => lhs; simp) ?_ | refine ZA (fun hb => ?_) (fun hb => ?_))
  all_goals (first | refine Ret.dataE rfl (by conv => lhs; simp) (by conv => lhs; simp) (by first | rfl | simp [inlT, inlV]) ?_ | refine RetNf.dataE rfl (by conv => lhs; simp) (by conv => lhs; simp) (by first | rfl | simp [inlT, inlV]) ?_)
  all_goals (first | rfl | (simp [nan64R]; done) | (simp_all [nan64R]; done) | (simp_all [nan64R]; omega))
noncomputable def nanR (x : Int) : AV := .bool false
noncomputable def nanS : SpecFn := mkS (fun p : Int => [.int .i64 p]) fun p => (nanR p, [])
theorem nan_eq (x : Int) : nanS [.int .i64 x] [] = some (nanR (x), []) :=
  mkS_eq (enc := fun p : Int => [.int .i64 p]) (res := fun p => (nanR p, [])) (fun x y h => by
    obtain ⟨h0, h⟩ := List.cons.inj h
    have e0 := AVi h0
    subst e0
    rfl) (x)
def cmpI (a b : Int) : Int := if a < b then -1 else if b < a then 1 else 0
@[simp] theorem cmpI_eq0 (a b : Int) : (cmpI a b == 0) = decide (a = b) := by
  unfold cmpI
  split
  · rw [decide_eq_false (by omega)]; rfl
  · split
    · rw [decide_eq_false (by omega)]; rfl
    · rw [decide_eq_true (by omega)]; rfl
@[simp] theorem cmpI_lt0 (a b : Int) : (cmpI a b < 0) ↔ a < b := by
  unfold cmpI
  split
  · simp [*]
  · split <;> simp <;> omega
noncomputable def cmp64R (x : Int) (y : Int) : AV := .int .i64 (cmpI x y)
noncomputable def cmp64S : SpecFn := mkS (fun p : Int × Int => [.int .u64 p.1, .int .u64 p.2]) fun p => (cmp64R p.1 p.2, [])
theorem cmp64_eq (x : Int) (y : Int) : cmp64S [.int .u64 x, .int .u64 y] [] = some (cmp64R (x) (y), []) :=
  mkS_eq (enc := fun p : Int × Int => [.int .u64 p.1, .int .u64 p.2]) (res := fun p => (cmp64R p.1 p.2, [])) (fun x y h => by
    obtain ⟨a0, a1⟩ := x
    obtain ⟨b0, b1⟩ := y
    obtain ⟨h0, h⟩ := List.cons.inj h
    obtain ⟨h1, h⟩ := List.cons.inj h
    have e0 := AVi h0
    subst e0
    have e1 := AVi h1
    subst e1
    rfl) (x, y)
noncomputable def cmp64_ok_specs : NL Spec := [(171, ⟨1, nan64S⟩)]
theorem cmp64_ok_specs_ok : ∀ p ∈ cmp64_ok_specs, FnC Tryz.prog p.1 p.2.fn := by
  simp only [cmp64_ok_specs, List.mem_cons, List.not_mem_nil, or_false]
  rintro p rfl
  · exact nan64_ok
attribute [local simp] cmp64_ok_specs nan64_eq
theorem cmp64_ok : FnC Tryz.prog 156 cmp64S := by
  refine FnC.walk 156 (fn := Tryz.f156) Tryz.func156 rfl (by kernel_rfl) fun p => ?_
  obtain ⟨x, y⟩ := p
  change W _ (Ret _ _ (cmp64R (x) (y)) []) _ _ ⟨20, [(0, .int .u64 x), (1, .int .u64 y)], []⟩
  repeat' (first | refine ZV ?_ | refine ZB tm cmp64_ok_specs_ok ?_ | refine ZH (fun hb => ?_) (fun hb => ?_) | refine ZJ (by conv => lhs; simp [nan64R]) ?_ | refine ZA (fun hb => ?_) (fun hb => ?_))
  all_goals (first | refine Ret.dataE rfl (by conv => lhs; simp) (by conv => lhs; simp) (by first | rfl | simp [inlT, inlV]) ?_ | refine RetNf.dataE rfl (by conv => lhs; simp) (by conv => lhs; simp) (by first | rfl | simp [inlT, inlV]) ?_)
  all_goals (first | rfl | (simp [cmp64R, cmpI]; done) | (simp_all [cmp64R, cmpI]; done) | (simp_all [cmp64R, cmpI]; omega))
noncomputable def cmp_ok_specs : NL Spec := [(149, ⟨1, nanS⟩)]
attribute [local simp] cmp_ok_specs nan_eq
attribute [-simp] mkv
attribute [local simp] mkv_hd hdA_cons hdA_ob hdA_ob'
theorem half {lo hi : Nat} (h : lo + hi ≤ 9223372036854775807) : IntKind.i64.wrap ((IntKind.u64.wrap (IntKind.i64.wrap ((lo : Int) + (hi : Int)))).fdiv (2 ^ min 1 IntKind.u64.bits)) = (((lo + hi) / 2 : Nat) : Int) := by
  have h1 : IntKind.i64.wrap ((lo : Int) + (hi : Int)) = (lo : Int) + (hi : Int) := w64 (by omega) (by omega)
  have h2 : IntKind.u64.wrap ((lo : Int) + (hi : Int)) = (lo : Int) + (hi : Int) := by
    simp only [IntKind.wrap, IntKind.bits, IntKind.signed]
    simp
    omega
  have h3 : ((lo : Int) + (hi : Int)).fdiv (2 ^ min 1 IntKind.u64.bits) = (((lo + hi) / 2 : Nat) : Int) := by
    rw [Int.fdiv_eq_ediv_of_nonneg _ (by decide)]
    show ((lo : Int) + (hi : Int)) / 2 = _
    omega
  rw [h1, h2, h3]
  exact w64 (by omega) (by omega)
def bsF (c : Nat → Bool) (lo hi : Nat) : Nat :=
  if h : lo < hi then (if c ((lo + hi) / 2) then bsF c ((lo + hi) / 2 + 1) hi else bsF c lo ((lo + hi) / 2)) else lo
termination_by hi - lo
decreasing_by all_goals omega
theorem bsF_lt {c : Nat → Bool} {lo hi : Nat} (h : lo < hi) : bsF c lo hi = if c ((lo + hi) / 2) then bsF c ((lo + hi) / 2 + 1) hi else bsF c lo ((lo + hi) / 2) := by
  rw [bsF, dif_pos h]
theorem bsF_ge {c : Nat → Bool} {lo hi : Nat} (h : ¬ lo < hi) : bsF c lo hi = lo := by
  rw [bsF, dif_neg h]
def bsT (l : List Tok) (id : Int) : Nat := bsF (fun k => match l[k]? with | some t => decide (t.id < id) | none => false) 0 l.length
end Go.Abs.Nz
namespace Go.Abs.Nz
open Go Go.Proofs Go.Abs
set_option maxRecDepth 100000
set_option maxHeartbeats 4000000
set_option linter.unusedSimpArgs false
set_option linter.unusedVariables false
attribute [local simp] instA
attribute [-simp] mkv
attribute [local simp] mkv_hd hdA_cons hdA_ob hdA_ob'
end Go.Abs.Nz
namespace Go.Abs.Nz
open Go Go.Proofs Go.Abs
set_option maxRecDepth 100000
set_option maxHeartbeats 4000000
set_option linter.unusedSimpArgs false
set_option linter.unusedVariables false
attribute [local simp] instA
attribute [-simp] mkv
attribute [local simp] mkv_hd hdA_cons hdA_ob hdA_ob'
def WF := { x : Tks × Int × Tok // x.1.toks[bsT x.1.toks x.2.1]? = some x.2.2 ∧ x.2.2.id = x.2.1 }
theorem WF.ext {x y : WF} (h1 : x.1.1 = y.1.1) (h2 : x.1.2.1 = y.1.2.1) : x = y := by
  obtain ⟨⟨d, i, t⟩, h, hi⟩ := x
  obtain ⟨⟨d', i', t'⟩, h', hi'⟩ := y
  dsimp only at h1 h2 h h'
  subst h1 h2
  rw [h] at h'
  cases h'
  rfl
theorem pn1_eq (a1 a2 : Int) (o : Ob) (a3 : Int) (a4 a5 : Bool) : pn1S [.agg (.int .u64 a1 :: .int .i64 a2 :: (o.cells ++ [.int .i64 a3, .bool a4, .bool a5]))] [] = some (.agg (.int .u64 a1 :: .int .i64 a2 :: (o.cells ++ [.int .i64 a3, .bool true, .bool a5])), []) :=
  mkS_eq (enc := fun d : Tok => [.agg d.c]) (res := fun d => (.agg ({ d with pin := true } : Tok).c, [])) (fun x y h => by
    simp only [List.cons.injEq, AV.agg.injEq, and_true] at h
    cases Tok.c_inj h
    rfl) ⟨a1, a2, o, a3, a4, a5⟩
attribute [local simp] pn1_eq
end Go.Abs.Nz
namespace Go.Abs.Nz
open Go Go.Proofs Go.Abs
set_option maxRecDepth 100000
set_option maxHeartbeats 4000000
set_option linter.unusedSimpArgs false
set_option linter.unusedVariables false
attribute [local simp] instA
attribute [-simp] mkv
attribute [local simp] mkv_hd hdA_cons hdA_ob hdA_ob'
end Go.Abs.Nz
namespace Go.Abs.Nz
open Go Go.Proofs Go.Abs
set_option maxRecDepth 100000
set_option maxHeartbeats 4000000
set_option linter.unusedSimpArgs false
set_option linter.unusedVariables false
attribute [local simp] instA
attribute [-simp] mkv
attribute [local simp] mkv_hd hdA_cons hdA_ob hdA_ob'
theorem encO_inj {β : Type} {f : Tok × Ob → β} : ∀ x y, encO x = encO y → f x = f y := fun x y h => by
  obtain ⟨a, b⟩ := x
  obtain ⟨a', b'⟩ := y
  simp only [encO, obB, Prod.mk.injEq, List.cons.injEq, AV.agg.injEq, ABlk.mk.injEq, true_and, and_true] at h
  obtain ⟨h1, h2⟩ := h
  cases Tok.c_inj h1
  cases Td.ext h2
  rfl
theorem pu1_eq (a1 a2 : Int) (o : Ob) (a3 : Int) (a4 a5 : Bool) (q : Ob) : pu1S [.agg (.int .u64 a1 :: .int .i64 a2 :: (o.cells ++ [.int .i64 a3, .bool a4, .bool a5])), .ptr 0 0 0 0] [{ gen := 0, kind := 2, elem := 44, size := 36, inl := false, rows := [q.cells] }] = some (.agg (.int .u64 a1 :: .int .i64 a2 :: (q.cells ++ [.int .i64 a3, .bool a4, .bool a5])), [{ gen := 0, kind := 2, elem := 44, size := 36, inl := false, rows := [q.cells] }]) :=
  mkS2_eq (enc := encO) (res := fun d => (.agg ({ d.1 with obj := d.2 } : Tok).c, [obB d.2])) encO_inj (⟨a1, a2, o, a3, a4, a5⟩, q)
attribute [local simp] pu1_eq
end Go.Abs.Nz
namespace Go.Abs.Nz
open Go Go.Proofs Go.Abs
set_option maxRecDepth 100000
set_option maxHeartbeats 4000000
set_option linter.unusedSimpArgs false
set_option linter.unusedVariables false
attribute [local simp] instA
attribute [-simp] mkv
attribute [local simp] mkv_hd hdA_cons hdA_ob hdA_ob'
end Go.Abs.Nz
namespace Go.Abs.Nz
open Go Go.Proofs Go.Abs
set_option maxRecDepth 100000
set_option maxHeartbeats 4000000
set_option linter.unusedSimpArgs false
set_option linter.unusedVariables false
def Srt (l : List Tok) : Prop := l.Pairwise fun a b => a.id < b.id
def At (l : List Tok) (id : Int) (i : Nat) : Prop := i ≤ l.length ∧ ∀ k t, l[k]? = some t → (t.id < id ↔ k < i)
theorem At.zero {x : Tok} {l : List Tok} {id : Int} (h : At (x :: l) id 0) : ¬ x.id < id := fun e => by have := (h.2 0 x rfl).1 e; omega
theorem At.succ {x : Tok} {l : List Tok} {id : Int} {i : Nat} (h : At (x :: l) id (i + 1)) : x.id < id ∧ At l id i :=
  ⟨(h.2 0 x rfl).2 (by omega), by have := h.1; simp at this; omega, fun k t hk => by have := h.2 (k + 1) t (by simpa using hk); omega⟩
theorem Srt.get {l : List Tok} (h : Srt l) {j k : Nat} {s t : Tok} (hj : l[j]? = some s) (hk : l[k]? = some t) (hl : j < k) : s.id < t.id := by
  obtain ⟨h1, e1⟩ := List.getElem?_eq_some_iff.1 hj
  obtain ⟨h2, e2⟩ := List.getElem?_eq_some_iff.1 hk
  have := List.pairwise_iff_getElem.1 h j k h1 h2 hl
  rw [e1, e2] at this
  exact this
end Go.Abs.Nz
namespace Go.Abs.Nz
open Go Go.Proofs Go.Abs
set_option maxRecDepth 100000
set_option maxHeartbeats 4000000
set_option linter.unusedSimpArgs false
set_option linter.unusedVariables false
attribute [local simp] instA
attribute [-simp] mkv
attribute [local simp] mkv_hd hdA_cons hdA_ob hdA_ob'
end Go.Abs.Nz
namespace Go.Abs.Nz
open Go Go.Proofs Go.Abs
set_option maxRecDepth 100000
set_option maxHeartbeats 4000000
set_option linter.unusedSimpArgs false
set_option linter.unusedVariables false
attribute [local simp] instA
attribute [-simp] mkv
attribute [local simp] mkv_hd hdA_cons hdA_ob hdA_ob'
end Go.Abs.Nz
namespace Go.Abs.Nz
open Go Go.Proofs Go.Abs
set_option maxRecDepth 100000
set_option maxHeartbeats 4000000
set_option linter.unusedSimpArgs false
set_option linter.unusedVariables false
attribute [local simp] instA
attribute [-simp] mkv
attribute [local simp] mkv_hd hdA_cons hdA_ob hdA_ob'
def GI := { x : Tks × Int × Int × Tok // Srt x.1.toks ∧ fnd x.2.1 x.1.toks = some x.2.2.2 }
theorem GI.ext {x y : GI} (h1 : x.1.1 = y.1.1) (h2 : x.1.2.1 = y.1.2.1) (h3 : x.1.2.2.1 = y.1.2.2.1) : x = y := by
  obtain ⟨⟨d, i, m, t⟩, h, hi⟩ := x
  obtain ⟨⟨d', i', m', t'⟩, h', hi'⟩ := y
  dsimp only at h1 h2 h3 hi hi'
  subst h1 h2 h3
  rw [hi] at hi'
  cases hi'
  rfl
end Go.Abs.Nz
namespace Go.Abs.Nz
open Go Go.Proofs Go.Abs
set_option maxRecDepth 100000
set_option maxHeartbeats 4000000
set_option linter.unusedSimpArgs false
set_option linter.unusedVariables false
end Go.Abs.Nz
namespace Go.Abs.Nz
open Go Go.Proofs Go.Abs
set_option maxRecDepth 100000
set_option maxHeartbeats 4000000
set_option linter.unusedSimpArgs false
set_option linter.unusedVariables false
end Go.Abs.Nz
namespace Go.Abs.Nz
open Go Go.Proofs Go.Abs
set_option maxRecDepth 100000
set_option maxHeartbeats 4000000
set_option linter.unusedSimpArgs false
set_option linter.unusedVariables false
attribute [local simp] instA
attribute [-simp] mkv
attribute [local simp] mkv_hd hdA_cons hdA_ob hdA_ob'
end Go.Abs.Nz
namespace Go.Abs.Nz
open Go Go.Proofs Go.Abs
set_option maxRecDepth 100000
set_option maxHeartbeats 4000000
set_option linter.unusedSimpArgs false
set_option linter.unusedVariables false
attribute [local simp] instA
attribute [-simp] mkv
attribute [local simp] mkv_hd hdA_cons hdA_ob hdA_ob'
end Go.Abs.Nz
namespace Go.Abs.Nz
open Go Go.Proofs Go.Abs
set_option maxRecDepth 100000
set_option maxHeartbeats 4000000
set_option linter.unusedSimpArgs false
set_option linter.unusedVariables false
attribute [local simp] instA
def Raw (t : TypeId) := { xs : List AV // TyR Tryz.prog 8 t xs }
def encR (t : TypeId) (x : Raw t) : List AV := [.agg x.1]
theorem encR_inj (t : TypeId) : ∀ x y : Raw t, encR t x = encR t y → x = y := fun x y h => by
  simp only [encR, List.cons.injEq, AV.agg.injEq, and_true] at h
  exact Subtype.ext h
def Kp (t : TypeId) (x : Raw t) (r : AV × List ABlk) : Prop := ∃ b, r = (.bool b, []) ∧ (b = true → bdL 10000 x.1 = true)
theorem kp_ne (t : TypeId) (x : Raw t) : ∃ r, Kp t x r := ⟨(.bool false, []), false, rfl, by simp⟩
theorem bd_instr (rows : List (List AV)) (h : ∀ r ∈ rows, TyR Tryz.prog 8 202 r) : bdRows 10000 rows = true := bdRows_of fun r hr => by
  obtain ⟨x0, x1, x2, x3, rfl, -⟩ := viewInstr (h r hr)
  rfl
theorem bd_str (rows : List (List AV)) (h : ∀ r ∈ rows, TyR Tryz.prog 8 9 r) : bdRows 10000 rows = true := bdRows_of fun r hr => by
  have := h r hr
  simp only [TyR_string Tryz.underlying9] at this
  obtain ⟨s, rfl, -⟩ := this
  rfl
theorem bd_int {t : TypeId} {k : IntKind} (hu : Tryz.prog.underlying t = some (.int k)) (rows : List (List AV)) (h : ∀ r ∈ rows, TyR Tryz.prog 8 t r) : bdRows 10000 rows = true := bdRows_of fun r hr => by
  have := h r hr
  simp only [TyR_int hu] at this
  obtain ⟨m, rfl, -⟩ := this
  rfl
theorem bd_page (rows : List (List AV)) (h : ∀ r ∈ rows, TyR Tryz.prog 8 178 r) : bdRows 10000 rows = true := bdRows_of fun r hr => by
  obtain ⟨x0, x1, rfl, -⟩ := viewPageRef (h r hr)
  rfl
theorem bd_slot (rows : List (List AV)) (h : ∀ r ∈ rows, TyR Tryz.prog 8 181 r) : bdRows 10000 rows = true := bdRows_of fun r hr => by
  obtain ⟨x0, x1, x2, x3, rfl, -⟩ := viewSlot (h r hr)
  rfl
theorem kpP_ex : ∃ S, FnC Tryz.prog 41 S ∧ ∀ x : Raw 31, ∃ r, S (encR _ x) [] = some r ∧ Kp _ x r := by
  refine FnC.existsA 41 (fn := Tryz.f41) Tryz.func41 rfl (by kernel_rfl) (encR_inj _) (kp_ne _) fun x => ?_
  obtain ⟨xs, hx⟩ := x
  obtain ⟨x0, x1, x2, rfl, h0, h1, -⟩ := viewProgram hx
  change W _ _ _ _ ⟨26, [(0, .agg [.list 4 x0, .list 1 x1, .int .i64 x2])], []⟩
  try refine ZT ?_
  refine ZK tm no_specs rfl (by conv => lhs; simp) fun _ => ?_
  try refine ZT ?_
  refine ZK tm no_specs rfl (by conv => lhs; simp) fun hA => ?_
  have capA : x1.length ≤ maxLen := hA
  have cap : x1.length ≤ 9223372036854775807 := by simpa [maxLen] using capA
  try refine ZT ?_
  refine W.loop rfl (ι := { q : Nat × NL ABlk // q.1 ≤ x1.length ∧ lk q.2 32 = some { gen := 1, kind := 2, elem := 31, size := 3, inl := false, rows := [[.list 4 x0, .list 1 x1, .int .i64 x2]] } })
    (fun q => ⟨26, [(1, .ptr 32 1 0 0), (6, .list 1 x1), (7, .int .i64 x1.length), (8, .int .i64 (q.1.1 : Nat))], q.1.2⟩) (fun q => x1.length - q.1.1)
    ⟨(0, _), by simp, rfl⟩ (AS.le_of rfl ⟨rfl, rfl, rfl, rfl, trivial⟩ (fun _ => rfl)) ?_
  rintro ⟨⟨k, h⟩, hk, h2⟩
  dsimp only at hk h2 ⊢
  by_cases hk2 : k = x1.length
  · subst hk2
    repeat' (first | refine ZV ?_ | refine ZB tm no_specs ?_ | refine ZH (fun hb => ?_) (fun hb => ?_) | refine ZJ (by conv => lhs; simp [h2]) ?_ | refine ZA (fun hb => ?_) (fun hb => ?_))
    · refine ⟨(.bool _, []), ⟨_, rfl, ?_⟩, Ret.dataR rfl (by conv => lhs; simp) (by conv => lhs; simp) rfl⟩
      intro hc
      have e0 : x0.length ≤ 300 := by have := of_decide_eq_true hb; omega
      have e1 : x1.length ≤ 40 := by have := of_decide_eq_true hc; omega
      simp only [bdL, bdV, bd_instr x0 h0, bd_str x1 h1, Bool.and_true, Bool.and_eq_true, decide_eq_true_eq]
      omega
    · refine ⟨(.bool _, []), ⟨_, rfl, ?_⟩, Ret.dataR rfl (by conv => lhs; simp) (by conv => lhs; simp) rfl⟩
      intro hc
      cases hc
  · have hlt : k < x1.length := by omega
    obtain ⟨row, hr⟩ := get_lt hlt
    have ht := h1 row (List.mem_of_getElem? hr)
    simp only [TyR_string Tryz.underlying9] at ht
    obtain ⟨s, rfl, hs⟩ := ht
    have q1 : (k : Int) < x1.length := by omega
    have q2 : ¬ x1.length ≤ k := by omega
    have hw : IntKind.i64.wrap ((k : Int) + 1) = ((k + 1 : Nat) : Int) := w64 (by omega) (by omega)
    clear hlt hk2
    repeat' (first | refine ZV ?_ | refine ZB tm no_specs ?_ | refine ZH (fun hb => ?_) (fun hb => ?_) | refine ZJ (by conv => lhs; simp [q1, q2, hr, hw, h2, hs]) ?_ | refine ZA (fun hb => ?_) (fun hb => ?_))
    · refine ⟨(.bool _, []), ⟨_, rfl, ?_⟩, Ret.dataR rfl (by conv => lhs; simp) (by conv => lhs; simp) rfl⟩
      intro hc
      cases hc
    · exact ⟨⟨(k + 1, _), by dsimp only; omega, h2⟩, by dsimp only; omega, AS.le_of rfl ⟨rfl, rfl, rfl, rfl, trivial⟩ (fun _ => rfl)⟩
end Go.Abs.Nz
namespace Go.Abs.Nz
open Go Go.Proofs Go.Abs
set_option maxRecDepth 100000
set_option maxHeartbeats 4000000
set_option linter.unusedSimpArgs false
set_option linter.unusedVariables false
attribute [local simp] instA
set_option maxHeartbeats 8000000
theorem kpO_ex : ∃ S, FnC Tryz.prog 8 S ∧ ∀ x : Raw 44, ∃ r, S (encR _ x) [] = some r ∧ Kp _ x r := by
  obtain ⟨SP, hSP, hSPe⟩ := kpP_ex
  have specs_ok : ∀ p ∈ ([(41, ⟨1, SP⟩)] : NL Spec), FnC Tryz.prog p.1 p.2.fn := by
    simp only [List.mem_cons, List.not_mem_nil, or_false]
    rintro p rfl
    exact hSP
  refine FnC.existsA 8 (fn := Tryz.f8) Tryz.func8 rfl (by kernel_rfl) (encR_inj _) (kp_ne _) fun x => ?_
  obtain ⟨xs, hx⟩ := x
  obtain ⟨x0, x1, x2, xp, x4, x5, x6, x7, x8, x9, x10, x11, x12, x13, x14, x15, x16, rfl, -, -, -, hp, h4, h5, -, -, -, -, h10, h11, h12, -, -, -, h16⟩ := viewObject hx
  obtain ⟨y0, y1, y2, yp, yc, y5, y6, y7, y8, y9, rfl, -, -, g2, hpp, hpc, g5, g6, -, -, -⟩ := viewProcess hp
  obtain ⟨p0, p1, p2, rfl, k0, k1, -⟩ := viewProgram hpp
  obtain ⟨c0, c1, c2, c3, c4, c5, c6, c7, c8, rfl, -⟩ := viewCPU hpc
  obtain ⟨rP, cP, bP, rfl, hbP⟩ := hSPe ⟨_, hpp⟩
  simp only [encR] at cP
  dsimp only at hbP
  change W _ _ _ _ ⟨85, [(0, .agg [.int .u64 x0, .int .i64 x1, .int .i64 x2, .int .i64 y0, .int .u64 y1, .list 1 y2, .list 4 p0, .list 1 p1, .int .i64 p2, .int .i64 c0, .int .i64 c1, .int .i64 c2, .int .i64 c3, .int .i64 c4, .int .i64 c5, .int .i64 c6, .int .i64 c7, .int .i64 c8, .list 2 y5, .list 4 y6, .int .i64 y7, .int .i64 y8, .int .i64 y9, .list 1 x4, .list 1 x5, .int .i64 x6, .int .u64 x7, .int .i64 x8, .int .i64 x9, .list 1 x10, .list 1 x11, .list 1 x12, .int .i64 x13, .int .i64 x14, .int .i64 x15, .list 3 x16])], []⟩
  try refine ZT ?_
  refine ZK tm specs_ok rfl (by conv => lhs; simp) fun _ => ?_
  try refine ZT ?_
  refine ZK tm specs_ok rfl (by conv => lhs; simp) fun hA => ?_
  have cap : x16.length ≤ 9223372036854775807 := by simpa [maxLen] using hA
  try refine ZT ?_
  refine W.loop rfl (ι := { q : Nat × NL ABlk // q.1 ≤ x16.length ∧ (∀ r ∈ x16.take q.1, bdL 10000 r = true) ∧ lk q.2 32 = some { gen := 1, kind := 2, elem := 44, size := 36, inl := false, rows := [[.int .u64 x0, .int .i64 x1, .int .i64 x2, .int .i64 y0, .int .u64 y1, .list 1 y2, .list 4 p0, .list 1 p1, .int .i64 p2, .int .i64 c0, .int .i64 c1, .int .i64 c2, .int .i64 c3, .int .i64 c4, .int .i64 c5, .int .i64 c6, .int .i64 c7, .int .i64 c8, .list 2 y5, .list 4 y6, .int .i64 y7, .int .i64 y8, .int .i64 y9, .list 1 x4, .list 1 x5, .int .i64 x6, .int .u64 x7, .int .i64 x8, .int .i64 x9, .list 1 x10, .list 1 x11, .list 1 x12, .int .i64 x13, .int .i64 x14, .int .i64 x15, .list 3 x16]] } })
    (fun q => ⟨85, [(1, .ptr 32 1 0 0), (7, .list 3 x16), (8, .int .i64 x16.length), (9, .int .i64 (q.1.1 : Nat))], q.1.2⟩) (fun q => x16.length - q.1.1)
    ⟨(0, _), by simp, by simp, rfl⟩ (AS.le_of rfl ⟨rfl, rfl, rfl, rfl, trivial⟩ (fun _ => rfl)) ?_
  rintro ⟨⟨k, h⟩, hk, hbd, h2⟩
  dsimp only at hk hbd h2 ⊢
  by_cases hk2 : k = x16.length
  · subst hk2
    rw [List.take_length] at hbd
    repeat' (first | refine ZV ?_ | refine ZB tm specs_ok ?_ | refine ZH (fun hb => ?_) (fun hb => ?_) | refine ZJ (by conv => lhs; simp [h2, cP]) ?_ | refine ZA (fun hb => ?_) (fun hb => ?_))
    all_goals (refine ⟨(.bool _, []), ⟨_, rfl, ?_⟩, Ret.dataR rfl (by conv => lhs; simp) (by conv => lhs; simp) rfl⟩)
    all_goals intro hc
    all_goals first
      | (cases hc; done)
      | (have hPb := hbP (by assumption)
         have r1 := bd_int Tryz.underlying26 y2 g2
         have r2 := bd_page y5 g5
         have r3 := bd_slot y6 g6
         have r4 := bd_int Tryz.underlying2 x4 h4
         have r5 := bd_int Tryz.underlying5 x5 h5
         have r6 := bd_int Tryz.underlying26 x10 h10
         have r7 := bd_int Tryz.underlying5 x11 h11
         have r8 := bd_int Tryz.underlying5 x12 h12
         have r9 := bdRows_of hbd
         clear h2 cP hA
         simp only [bdL, bdV, Bool.and_eq_true, decide_eq_true_eq, Bool.and_true] at *
         simp only [List.cons_append, List.nil_append, bdL, bdV, r1, r2, r3, r4, r5, r6, r7, r8, r9, hPb, Bool.and_true, Bool.and_eq_true, decide_eq_true_eq, true_and, and_true]
         omega)
  · have hlt : k < x16.length := by omega
    obtain ⟨row, hr⟩ := get_lt hlt
    obtain ⟨n0, n1, n2, rfl, -, hn2⟩ := viewName (h16 row (List.mem_of_getElem? hr))
    have q1 : (k : Int) < x16.length := by omega
    have q2 : ¬ x16.length ≤ k := by omega
    have hw : IntKind.i64.wrap ((k : Int) + 1) = ((k + 1 : Nat) : Int) := w64 (by omega) (by omega)
    clear hlt hk2
    have ht : x16.take (k + 1) = x16.take k ++ [[.str n0, .int .i64 n1, .list 1 n2]] := by rw [List.take_add_one, hr]; rfl
    repeat' (first | refine ZV ?_ | refine ZB tm specs_ok ?_ | refine ZH (fun hb => ?_) (fun hb => ?_) | refine ZJ (by conv => lhs; simp [q1, q2, hr, hw, h2]) ?_ | refine ZA (fun hb => ?_) (fun hb => ?_))
    all_goals first
      | (refine ⟨(.bool false, []), ⟨false, rfl, fun hc => by cases hc⟩, Ret.dataR rfl (by conv => lhs; simp) (by conv => lhs; simp) rfl⟩; done)
      | skip
    · have e0 : n2.length ≤ 20 := by have := of_decide_eq_false hb; omega
      refine ⟨⟨(k + 1, _), by dsimp only; omega, ?_, by simp [lk_st, h2]⟩, by dsimp only; omega, AS.le_of rfl ⟨rfl, rfl, rfl, rfl, trivial⟩ (fun _ => rfl)⟩
      dsimp only
      rw [ht]
      intro r hr
      rcases List.mem_append.1 hr with hr | hr
      · exact hbd r hr
      · rw [List.mem_singleton] at hr
        subst hr
        simp only [bdL, bdV, bd_int Tryz.underlying26 n2 hn2, Bool.and_true, Bool.true_and, true_and, and_true, decide_eq_true_eq]
        omega
end Go.Abs.Nz
namespace Go.Abs.Nz
open Go Go.Proofs Go.Abs
set_option maxRecDepth 100000
set_option maxHeartbeats 4000000
set_option linter.unusedSimpArgs false
set_option linter.unusedVariables false
attribute [local simp] instA
attribute [-simp] mkv
attribute [local simp] mkv_hd hdA_cons hdA_ob hdA_ob'
def Raw9 (t : TypeId) := { xs : List AV // TyR Tryz.prog 9 t xs }
def encR9 (t : TypeId) (x : Raw9 t) : List AV := [.agg x.1]
theorem encR9_inj (t : TypeId) : ∀ x y : Raw9 t, encR9 t x = encR9 t y → x = y := fun x y h => by
  simp only [encR9, List.cons.injEq, AV.agg.injEq, and_true] at h
  exact Subtype.ext h
theorem raw_len {xs : List AV} (h : TyR Tryz.prog 8 44 xs) : xs.length = 36 := by
  rw [← (h.nrm (by omega)).1, obLeafs]
theorem raw_all {xs : List AV} (h : TyR Tryz.prog 8 44 xs) : xs.all AV.dat = true := h.dat
end Go.Abs.Nz
namespace Go.Abs.Nz
open Go Go.Proofs Go.Abs
set_option maxRecDepth 100000
set_option maxHeartbeats 4000000
set_option linter.unusedSimpArgs false
set_option linter.unusedVariables false
theorem Msg.v_inj {a b : Msg} (h : a.v = b.v) : a = b := by
  obtain ⟨a1, a2, a3, a4, a5, o, a6, a7, a8, a9⟩ := a
  obtain ⟨b1, b2, b3, b4, b5, q, b6, b7, b8, b9⟩ := b
  simp only [Msg.v, List.cons.injEq, AV.int.injEq, true_and] at h
  obtain ⟨rfl, rfl, rfl, rfl, rfl, h⟩ := h
  obtain ⟨h1, h2⟩ := List.append_inj h (by simp)
  simp only [List.cons.injEq, AV.int.injEq, true_and, and_true] at h2
  obtain ⟨rfl, rfl, rfl, rfl⟩ := h2
  rw [Td.ext h1]
def dvC (id n : Int) : List AV := [.int .u64 id, .int .i64 9, .int .i64 0, .int .i64 0, .int .u64 0, .nils, .nils, .nils, .int .i64 0, .int .i64 0, .int .i64 0, .int .i64 0, .int .i64 0, .int .i64 0, .int .i64 0, .int .i64 0, .int .i64 0, .int .i64 0, .nils, .nils, .int .i64 0, .int .i64 0, .int .i64 0, .nils, .nils, .int .i64 0, .int .u64 0, .int .i64 0, .int .i64 0, .nils, .nils, .nils, .int .i64 0, .int .i64 0, .int .i64 n, .nils]
def dvN (id n : Int) : List AV := [.int .u64 id, .int .i64 9, .int .i64 0, .int .i64 0, .int .u64 0, .list 1 [], .list 4 [], .list 1 [], .int .i64 0, .int .i64 0, .int .i64 0, .int .i64 0, .int .i64 0, .int .i64 0, .int .i64 0, .int .i64 0, .int .i64 0, .int .i64 0, .list 2 [], .list 4 [], .int .i64 0, .int .i64 0, .int .i64 0, .list 1 [], .list 1 [], .int .i64 0, .int .u64 0, .int .i64 0, .int .i64 0, .list 1 [], .list 1 [], .list 1 [], .int .i64 0, .int .i64 0, .int .i64 n, .list 3 []]
theorem dv_nrm (id n : Int) : nrmL Tryz.prog (leafs Tryz.prog 44) (dvC id n) = dvN id n := by kernel_rfl
theorem wf0i : (Lit.int .i64 0).wf = true := by decide
theorem wf9i : (Lit.int .i64 9).wf = true := by decide
theorem wf0u : (Lit.int .u64 0).wf = true := by decide
theorem dv_p {id n : Int} (h1 : (Lit.int .u64 id).wf = true) (h2 : (Lit.int .i64 n).wf = true) : tyP Tryz.prog 8 44 (dvN id n) = some [] := by
  simp [tyP, tyFsP, tyB, tyI, tyS, dvN, List.replicate, Tryz.underlying44, Tryz.underlying26, Tryz.underlying3, Tryz.underlying38, Tryz.underlying27, Tryz.underlying31, Tryz.underlying28, Tryz.underlying29, Tryz.underlying34, Tryz.underlying32, Tryz.underlying2, Tryz.underlying35, Tryz.underlying36, Tryz.underlying39, Tryz.underlying25, Tryz.underlying40, Tryz.underlying41, Tryz.underlying42, vc26, vc202, vc9, vc178, vc181, vc2, vc5, vc94, h1, h2, wf0i, wf9i, wf0u]
theorem dv_ty {id n : Int} (h1 : (Lit.int .u64 id).wf = true) (h2 : (Lit.int .i64 n).wf = true) : TyR Tryz.prog 8 44 (dvN id n) := by
  obtain ⟨a, e1, e2⟩ := tyP_ok 8 _ _ _ (dv_p h1 h2)
  rw [List.append_nil] at e1
  rw [e1]
  exact e2
theorem dv_bd (id n : Int) : bdL 10000 (dvN id n) = true := by kernel_rfl
def dvO (id n : Int) (h1 : (Lit.int .u64 id).wf = true) (h2 : (Lit.int .i64 n).wf = true) : Ob := ⟨dvN id n, dv_ty h1 h2, dv_bd id n⟩
theorem idV_wf (l : List UInt8) : (Lit.int .u64 (idV l)).wf = true := by
  unfold idV mk3
  generalize ((IntKind.u64.wrap ↑((IntKind.u64.wrap (IntKind.u64.wrap (dn l 3) * 2 ^ min 56 IntKind.u64.bits) % 2 ^ IntKind.u64.bits).toNat ||| (IntKind.u64.wrap (IntKind.u64.wrap (dn (d1 l) 2) * 2 ^ min 40 IntKind.u64.bits) % 2 ^ IntKind.u64.bits).toNat) % 2 ^ IntKind.u64.bits).toNat ||| (IntKind.u64.wrap (1 + dn (d2 l) 9) % 2 ^ IntKind.u64.bits).toNat) = x
  simp only [Lit.wf, IntKind.wrap, IntKind.min, IntKind.max, IntKind.signed, IntKind.bits]
  simp
  omega
end Go.Abs.Nz
namespace Go.Proofs
open Go.Shelf
def Tryz.lays189_ren : Go.Shelf.Ren := ⟨fun | 189 => 153 | 125 => 170 | 257 => 169 | 128 => 186 | 129 => 187 | 294 => 177 | 295 => 178 | 296 => 179 | 297 => 180 | 298 => 181 | 299 => 182 | 216 => 183 | 300 => 184 | 301 => 185 | 328 => 191 | 329 => 192 | 330 => 193 | 331 => 194 | 332 => 195 | 215 => 149 | 343 => 197 | n => n, fun | 28 => 82 | 3 => 3 | 46 => 160 | 0 => 0 | 51 => 221 | 53 => 26 | 4 => 4 | 183 => 214 | 182 => 213 | 131 => 143 | 5 => 5 | 9 => 9 | 218 => 225 | 222 => 229 | 228 => 231 | 229 => 232 | n => n, fun | n => n⟩
theorem Tryz.lays189 : Go.Proofs.Lays.n189 Tryz.prog Tryz.lays189_ren := {
  mixed := by kernel_rfl
  f125 := Tryz.func170.trans (congrArg some (by kernel_rfl))
  f128 := Tryz.func186.trans (congrArg some (by kernel_rfl))
  f129 := Tryz.func187.trans (congrArg some (by kernel_rfl))
  f189 := Tryz.func153.trans (congrArg some (by kernel_rfl))
  f215 := Tryz.func149.trans (congrArg some (by kernel_rfl))
  f216 := Tryz.func183.trans (congrArg some (by kernel_rfl))
  f257 := Tryz.func169.trans (congrArg some (by kernel_rfl))
  f294 := Tryz.func177.trans (congrArg some (by kernel_rfl))
  f295 := Tryz.func178.trans (congrArg some (by kernel_rfl))
  f296 := Tryz.func179.trans (congrArg some (by kernel_rfl))
  f297 := Tryz.func180.trans (congrArg some (by kernel_rfl))
  f298 := Tryz.func181.trans (congrArg some (by kernel_rfl))
  f299 := Tryz.func182.trans (congrArg some (by kernel_rfl))
  f300 := Tryz.func184.trans (congrArg some (by kernel_rfl))
  f301 := Tryz.func185.trans (congrArg some (by kernel_rfl))
  f328 := Tryz.func191.trans (congrArg some (by kernel_rfl))
  f329 := Tryz.func192.trans (congrArg some (by kernel_rfl))
  f330 := Tryz.func193.trans (congrArg some (by kernel_rfl))
  f331 := Tryz.func194.trans (congrArg some (by kernel_rfl))
  f332 := Tryz.func195.trans (congrArg some (by kernel_rfl))
  f343 := Tryz.func197.trans (congrArg some (by kernel_rfl))
  t0 := Tryz.underlying0
  a0 := Tryz.isAgg0
  z0 := Tryz.sizeOf0
  v0 := Tryz.zeroValue0
  t3 := Tryz.underlying3
  a3 := Tryz.isAgg3
  z3 := Tryz.sizeOf3
  v3 := Tryz.zeroValue3
  t4 := Tryz.underlying4
  a4 := Tryz.isAgg4
  z4 := Tryz.sizeOf4
  v4 := Tryz.zeroValue4
  t5 := Tryz.underlying5
  a5 := Tryz.isAgg5
  z5 := Tryz.sizeOf5
  v5 := Tryz.zeroValue5
  t9 := Tryz.underlying9
  a9 := Tryz.isAgg9
  z9 := Tryz.sizeOf9
  v9 := Tryz.zeroValue9
  t28 := Tryz.underlying82
  a28 := Tryz.isAgg82
  z28 := Tryz.sizeOf82
  v28 := Tryz.zeroValue82
  t46 := Tryz.underlying160
  a46 := Tryz.isAgg160
  z46 := Tryz.sizeOf160
  v46 := Tryz.zeroValue160
  t51 := Tryz.underlying221
  a51 := Tryz.isAgg221
  z51 := Tryz.sizeOf221
  v51 := Tryz.zeroValue221
  t53 := Tryz.underlying26
  a53 := Tryz.isAgg26
  z53 := Tryz.sizeOf26
  v53 := Tryz.zeroValue26
  t131 := Tryz.underlying143
  a131 := Tryz.isAgg143
  z131 := Tryz.sizeOf143
  v131 := Tryz.zeroValue143
  t182 := Tryz.underlying213
  a182 := Tryz.isAgg213
  z182 := Tryz.sizeOf213
  v182 := Tryz.zeroValue213
  t183 := Tryz.underlying214
  a183 := Tryz.isAgg214
  z183 := Tryz.sizeOf214
  v183 := Tryz.zeroValue214
  t218 := Tryz.underlying225
  a218 := Tryz.isAgg225
  z218 := Tryz.sizeOf225
  v218 := Tryz.zeroValue225
  t222 := Tryz.underlying229
  a222 := Tryz.isAgg229
  z222 := Tryz.sizeOf229
  v222 := Tryz.zeroValue229
  t228 := Tryz.underlying231
  a228 := Tryz.isAgg231
  z228 := Tryz.sizeOf231
  v228 := Tryz.zeroValue231
  t229 := Tryz.underlying232
  a229 := Tryz.isAgg232
  z229 := Tryz.sizeOf232
  v229 := Tryz.zeroValue232 }
open Go.Sort Go.RowKit in
theorem Tryz.slices_Sort_int (blk off cap : Nat) (zs : List Int) (w : World) (hH : Holds (Value.int .i64) w blk off zs.toArray) (hblk : blk < w.heap.size) (hsz : zs.length < 4611686018427387904) :
    Calls Tryz.prog 153 #[.slice (some ⟨blk, off, none⟩) zs.length cap] w fun e w' =>
      e = .returned (.tuple #[]) ∧ ∃ n os, w' = grow (putRow (Value.int .i64) (Sort.ahead w n) blk off (zs.mergeSort fun x y => decide (x ≤ y)).toArray) os := Any.slices_Sort_int Tryz.lays189 blk off cap zs w hH hblk hsz
end Go.Proofs
namespace Go.Abs.Dir
set_option linter.unusedSimpArgs false
set_option linter.unusedVariables false
structure Ent (O : Type) where
  id : Int
  owner : Int
  readers : List Int
  obj : O
  waiting : List Int
  queue : List (Int × Int)
inductive Mg (O : Type) where
  | rev (to : Int)
  | grant (to mode : Int) (obj : O)
def oth (l : List Int) (n : Int) : List Int := l.filter (fun x => x != n)
def ins (n : Int) : List Int → List Int
  | [] => [n]
  | x :: r => if x < n then x :: ins n r else n :: x :: r
variable {O : Type}
def goQ (z : O) : List (Int × Int) → Int → List Int → O → List (Mg O) × Int × List Int × O × List Int × List (Int × Int)
  | [], ow, rd, ob => ([], ow, rd, ob, [], [])
  | (n, m) :: q, ow, rd, ob =>
    if ow ≠ -1 then ([.rev ow], ow, rd, ob, [ow], (n, m) :: q)
    else if m = 1 then
      let r := goQ z q ow (ins n (oth rd n)) ob
      (.grant n m ob :: r.1, r.2)
    else if oth rd n ≠ [] then ((oth rd n).map .rev, ow, rd, ob, oth rd n, (n, m) :: q)
    else
      let r := goQ z q n [] z
      (.grant n m ob :: r.1, r.2)
def goOn (z : O) (e : Ent O) : List (Mg O) × Ent O :=
  if e.waiting = [] then
    let r := goQ z e.queue e.owner e.readers e.obj
    (r.1, { id := e.id, owner := r.2.1, readers := r.2.2.1, obj := r.2.2.2.1, waiting := r.2.2.2.2.1, queue := r.2.2.2.2.2 })
  else ([], e)
def retE (z : O) (e : Ent O) (n : Int) (o : O) : List (Mg O) × Ent O :=
  goOn z { e with owner := (if e.owner = n then -1 else e.owner), obj := (if e.owner = n then o else e.obj), readers := (if e.owner = n then e.readers else oth e.readers n), waiting := oth e.waiting n }
end Go.Abs.Dir
namespace Go.Abs.Dir
set_option linter.unusedSimpArgs false
set_option linter.unusedVariables false
variable {O : Type}
structure Hd where
  mode : Int → Int
  demand : Int → Bool
  asked : Int → Int
def N4 (n : Int) : Prop := 0 ≤ n ∧ n ≤ 3
def Asc (l : List Int) : Prop := l.Pairwise (· < ·)
structure Pre (Pz : O → Prop) (z : O) (q : List (Int × Int)) (ow : Int) (rd : List Int) (ob : O) (h : Hd) : Prop where
  m2 : ∀ n, N4 n → (h.mode n = 2 ↔ ow = n)
  m1 : ∀ n, N4 n → (h.mode n = 1 ↔ n ∈ rd)
  m0 : ∀ n, N4 n → 0 ≤ h.mode n ∧ h.mode n ≤ 2
  owr : ow = -1 ∨ N4 ow
  rdr : ∀ n ∈ rd, N4 n
  asc : Asc rd
  one : ow ≠ -1 → rd = []
  obz : ow ≠ -1 → ob = z
  obp : Pz ob
  q1 : ∀ p ∈ q, N4 p.1 ∧ h.asked p.1 = p.2 ∧ (p.2 = 1 ∨ p.2 = 2) ∧ h.mode p.1 < p.2
  q2 : q.Pairwise (fun a b => a.1 ≠ b.1)
  q3 : ∀ n, N4 n → h.asked n ≠ 0 → ∃ p ∈ q, p.1 = n
structure Inv (Pz : O → Prop) (z : O) (e : Ent O) (h : Hd) : Prop where
  pre : Pre Pz z e.queue e.owner e.readers e.obj h
  dem : ∀ n, N4 n → (h.demand n = true ↔ n ∈ e.waiting)
  wt : (e.waiting = [] ∧ e.queue = []) ∨ (e.waiting ≠ [] ∧ ∃ p q, e.queue = p :: q ∧ ((e.owner ≠ -1 ∧ e.waiting = [e.owner]) ∨ (e.owner = -1 ∧ p.2 = 2 ∧ e.waiting = oth e.readers p.1)))
theorem mem_oth {l : List Int} {n x : Int} : x ∈ oth l n ↔ x ∈ l ∧ x ≠ n := by simp [oth]
theorem asc_oth {l : List Int} (h : Asc l) (n : Int) : Asc (oth l n) := List.Pairwise.filter _ h
theorem mem_ins {n x : Int} : ∀ {l : List Int}, x ∈ ins n l ↔ x = n ∨ x ∈ l
  | [] => by simp [ins]
  | y :: r => by
    rw [ins]
    split
    · rw [List.mem_cons, mem_ins (l := r), List.mem_cons]
      constructor
      · rintro (h | h | h) <;> simp [h]
      · rintro (h | h | h) <;> simp [h]
    · simp
theorem asc_ins {n : Int} : ∀ {l : List Int}, Asc l → n ∉ l → Asc (ins n l)
  | [], _, _ => by simp [ins, Asc]
  | y :: r, h, hn => by
    obtain ⟨h1, h2⟩ := List.pairwise_cons.1 h
    rw [ins]
    have hne : y ≠ n := fun e => hn (by simp [e])
    split
    · refine List.pairwise_cons.2 ⟨fun x hx => ?_, asc_ins h2 fun e => hn (by simp [e])⟩
      rcases mem_ins.1 hx with rfl | hx
      · assumption
      · exact h1 x hx
    · refine List.pairwise_cons.2 ⟨fun x hx => ?_, h⟩
      rcases List.mem_cons.1 hx with rfl | hx
      · omega
      · have := h1 x hx; omega
theorem N4_cases {n : Int} (h : N4 n) : n = 0 ∨ n = 1 ∨ n = 2 ∨ n = 3 := by unfold N4 at h; omega
theorem nodup_len : ∀ {l S : List Int}, l.Nodup → (∀ x ∈ l, x ∈ S) → l.length ≤ S.length
  | [], _, _, _ => Nat.zero_le _
  | x :: r, S, h, hs => by
    obtain ⟨h1, h2⟩ := List.pairwise_cons.1 h
    have hx := hs x (by simp)
    have h3 := nodup_len (l := r) (S := S.erase x) h2 (fun y hy => (List.mem_erase_of_ne (h1 y hy).symm).2 (hs y (by simp [hy])))
    rw [List.length_erase_of_mem hx] at h3
    have := List.length_pos_of_mem hx
    simp only [List.length_cons]
    omega
theorem Inv.q4 {Pz : O → Prop} {z : O} {e : Ent O} {h : Hd} (hi : Inv Pz z e h) : e.queue.length ≤ 4 := by
  have h1 : (e.queue.map (·.1)).Nodup := by
    rw [List.Nodup, List.pairwise_map]
    exact hi.pre.q2
  have h2 : ∀ x ∈ e.queue.map (·.1), x ∈ [(0 : Int), 1, 2, 3] := fun x hx => by
    obtain ⟨p, hp, rfl⟩ := List.mem_map.1 hx
    have := N4_cases (hi.pre.q1 p hp).1
    simpa using this
  have := nodup_len h1 h2
  simpa using this
end Go.Abs.Dir
namespace Go.Abs.Nz
open Go Go.Proofs Go.Abs
set_option maxRecDepth 100000
set_option maxHeartbeats 4000000
set_option linter.unusedSimpArgs false
set_option linter.unusedVariables false
attribute [local simp] instA
def ixiF (p : Int → Bool) : Nat → List Int → Int
  | _, [] => -1
  | k, x :: r => if p x then (k : Int) else ixiF p (k + 1) r
theorem ixiF_drop {p : Int → Bool} {l : List Int} {k : Nat} {x : Int} (h : l[k]? = some x) : ixiF p k (l.drop k) = if p x then (k : Int) else ixiF p (k + 1) (l.drop (k + 1)) := by
  obtain ⟨hk, rfl⟩ := List.getElem?_eq_some_iff.1 h
  rw [List.drop_eq_getElem_cons hk, ixiF]
theorem ixiF_end {p : Int → Bool} {l : List Int} : ixiF p l.length (l.drop l.length) = -1 := by rw [List.drop_length]; rfl
theorem ixiF_any {p : Int → Bool} : ∀ {k : Nat} {l : List Int}, decide (0 ≤ ixiF p k l) = l.any p
  | k, [] => by simp [ixiF]
  | k, x :: r => by
    rw [ixiF, List.any_cons]
    cases hp : p x
    · simpa using ixiF_any (p := p) (k := k + 1) (l := r)
    · simp
structure ixiV where
  F : FuncId
  p : Int → Bool
  S : SpecFn
  ok : FnC Tryz.prog F S
  eq : ∀ x, S [.int .i64 x] [] = some (.bool (p x), [])
structure ixiW where
  F : FuncId
  ne : (F = 123) = False
  ne2 : (123 = F) = False
  p : Int → Bool
  E : Nat
  s : Nat
  row : List AV
  refs : refsL row = []
  ren : ∀ f, renL f row = row
  S : SpecFn
  ok : FnC Tryz.prog F S
  eq : ∀ x, S [.int .i64 x, .ptr 0 0 0 0] [{ gen := 0, kind := 2, elem := E, size := s, inl := false, rows := [row] }] = some (.bool (p x), [{ gen := 0, kind := 2, elem := E, size := s, inl := false, rows := [row] }])
def ixiW.b (v : ixiW) : ABlk := { gen := 0, kind := 2, elem := v.E, size := v.s, inl := false, rows := [v.row] }
def ixiB (l : List Int) : ABlk := { gen := 0, kind := 2, elem := 3, size := 1, inl := true, rows := l.map iC }
theorem ixiC_inj {l m : List Int} (h : l.map iC = m.map iC) : l = m := map_inj' (fun a b h => (by simpa [iC] using h)) h
noncomputable def ixi1 (v : ixiW) : SpecFn := mkS2 (fun l : {l : List Int // l.length ≤ 9100} => ([.list 1 (l.1.map iC), .fn (.func v.F) [] [.ptr 0 0 0 0]], [v.b])) fun l => (.int .i64 (ixiF v.p 0 l.1), [v.b])
theorem ixi1_eq (v : ixiW) (l : List Int) (h : l.length ≤ 9100) : ixi1 v [.list 1 (l.map iC), .fn (.func v.F) [] [.ptr 0 0 0 0]] [v.b] = some (.int .i64 (ixiF v.p 0 l), [v.b]) :=
  mkS2_eq (enc := fun l : {l : List Int // l.length ≤ 9100} => ([AV.list 1 (l.1.map iC), .fn (.func v.F) [] [.ptr 0 0 0 0]], [v.b])) (res := fun l => (AV.int .i64 (ixiF v.p 0 l.1), [v.b])) (fun x y h => by
    simp only [Prod.mk.injEq, List.cons.injEq, AV.list.injEq, true_and, and_true] at h
    rw [ixiC_inj h]) ⟨l, h⟩
noncomputable def ixi2 (v : ixiW) : SpecFn := mkS2 (fun l : {l : List Int // l.length ≤ 9100} => ([.sl 0 0 0 l.1.length, .fn (.func v.F) [] [.ptr 1 0 0 0]], [ixiB l.1, v.b])) fun l => (.int .i64 (ixiF v.p 0 l.1), [ixiB l.1, v.b])
theorem ixi2_eq (v : ixiW) (l : List Int) (h : l.length ≤ 9100) : ixi2 v [.sl 0 0 0 l.length, .fn (.func v.F) [] [.ptr 1 0 0 0]] [ixiB l, v.b] = some (.int .i64 (ixiF v.p 0 l), [ixiB l, v.b]) :=
  mkS2_eq (enc := fun l : {l : List Int // l.length ≤ 9100} => ([AV.sl 0 0 0 l.1.length, .fn (.func v.F) [] [.ptr 1 0 0 0]], [ixiB l.1, v.b])) (res := fun l => (AV.int .i64 (ixiF v.p 0 l.1), [ixiB l.1, v.b])) (fun x y h => by
    simp only [ixiB, Prod.mk.injEq, List.cons.injEq, ABlk.mk.injEq, true_and, and_true] at h
    rw [ixiC_inj h.2]) ⟨l, h⟩
theorem ixi1_ok (v : ixiW) : FnC Tryz.prog 123 (ixi1 v) := by
  obtain ⟨G, ne, ne2, p, E, s, row, rf, rn, S, ok, eq⟩ := v
  have sp : ∀ q ∈ ([(G, ⟨3, S⟩)] : NL Spec), FnC Tryz.prog q.1 q.2.fn := by
    simp only [List.mem_cons, List.not_mem_nil, or_false]
    rintro q rfl
    exact ok
  refine FnC.walkB 123 (fn := Tryz.f123) Tryz.func123 rfl (by kernel_rfl) (fun x b hb => by simp at hb; rw [hb]; rfl) fun x => ?_
  obtain ⟨l, hl⟩ := x
  obtain ⟨b, hB⟩ : ∃ b : ABlk, b = { gen := 0, kind := 2, elem := E, size := s, inl := false, rows := [row] } := ⟨_, rfl⟩
  change W _ (RetB _ _ 1 (.int .i64 (ixiF p 0 l)) [{ gen := 0, kind := 2, elem := E, size := s, inl := false, rows := [row] }]) _ _ ⟨19, [(0, .list 1 (l.map iC)), (1, .fn (.func G) [] [.ptr 0 0 0 0])], [(0, { gen := 0, kind := 2, elem := E, size := s, inl := false, rows := [row] })]⟩
  have cap : l.length ≤ 9223372036854775807 := by omega
  repeat' (first | refine ZV ?_ | refine ZB tm sp ?_ | refine ZH (fun hb => ?_) (fun hb => ?_) | refine ZJ (by conv => lhs; simp [cap]) ?_ | refine ZA (fun hb => ?_) (fun hb => ?_))
  refine W.loop rfl (ι := { q : Nat × NL ABlk // q.1 ≤ l.length ∧ ixiF p 0 l = ixiF p q.1 (l.drop q.1) ∧ lk q.2 0 = some { gen := 0, kind := 2, elem := E, size := s, inl := false, rows := [row] } })
    (fun q => ⟨19, [(0, .list 1 (l.map iC)), (1, .fn (.func G) [] [.ptr 0 0 0 0]), (7, .int .i64 l.length), (8, .int .i64 (q.1.1 : Nat))], q.1.2⟩) (fun q => l.length - q.1.1)
    ⟨(0, _), by simp, rfl, rfl⟩ (AS.le_of rfl ⟨rfl, rfl, rfl, rfl, trivial⟩ (fun _ => rfl)) ?_
  rintro ⟨⟨k, h⟩, hk, hf, h1⟩
  dsimp only at hk hf h1 ⊢
  by_cases hk2 : k = l.length
  · subst hk2
    rw [ixiF_end] at hf
    rw [hf]
    repeat' (first | refine ZV ?_ | refine ZB tm sp ?_ | refine ZH (fun hb => ?_) (fun hb => ?_) | refine ZJ (by conv => lhs; simp) ?_ | refine ZA (fun hb => ?_) (fun hb => ?_))
    exact RetB.raw [0] rfl (by conv => lhs; simp) (by decide) (by simp [h1]) (by simp [h1, rn]) (by simp)
  · have hlt : k < l.length := by omega
    obtain ⟨m, hr⟩ := get_lt hlt
    have hm : (l.map iC)[k]? = some (iC m) := by rw [List.getElem?_map, hr]; rfl
    have q1 : (k : Int) < l.length := by omega
    have q2 : ¬ l.length ≤ k := by omega
    have hw : IntKind.i64.wrap ((k : Int) + 1) = ((k + 1 : Nat) : Int) := w64 (by omega) (by omega)
    rw [ixiF_drop hr] at hf
    have cf := eq m
    clear hlt hk2
    skip
    cases ho : p m with
    | true =>
      rw [if_pos ho] at hf
      rw [hf]
      rw [ho] at cf
      repeat' (first | refine ZV ?_ | refine ZB tm sp ?_ | refine ZH (fun hb => ?_) (fun hb => ?_) | refine ZJ (by conv => lhs; simp [q1, q2, hm, cf, h1, rf, rn, iC]) ?_ | refine ZA (fun hb => ?_) (fun hb => ?_))
      exact RetB.raw [0] rfl (by conv => lhs; simp) (by decide) (by simp) (by simp [rn]) (by simp)
    | false =>
      rw [if_neg (by simp [ho])] at hf
      rw [ho] at cf
      repeat' (first | refine ZV ?_ | refine ZB tm sp ?_ | refine ZH (fun hb => ?_) (fun hb => ?_) | refine ZJ (by conv => lhs; simp [q1, q2, hm, cf, hw, h1, rf, rn, iC]) ?_ | refine ZA (fun hb => ?_) (fun hb => ?_))
      exact ⟨⟨(k + 1, _), by dsimp only; omega, hf, by simp [lk_st]⟩, by dsimp only; omega, AS.le_of rfl ⟨rfl, rfl, rfl, rfl, trivial⟩ (fun _ => rfl)⟩
theorem ixi2_ok (v : ixiW) : FnC Tryz.prog 123 (ixi2 v) := by
  obtain ⟨G, ne, ne2, p, E, s, row, rf, rn, S, ok, eq⟩ := v
  have sp : ∀ q ∈ ([(G, ⟨3, S⟩)] : NL Spec), FnC Tryz.prog q.1 q.2.fn := by
    simp only [List.mem_cons, List.not_mem_nil, or_false]
    rintro q rfl
    exact ok
  refine FnC.walkB 123 (fn := Tryz.f123) Tryz.func123 rfl (by kernel_rfl) (fun x b hb => by simp at hb; rcases hb with rfl | rfl <;> rfl) fun x => ?_
  obtain ⟨l, hl⟩ := x
  change W _ (RetB _ _ 2 (.int .i64 (ixiF p 0 l)) [ixiB l, { gen := 0, kind := 2, elem := E, size := s, inl := false, rows := [row] }]) _ _ ⟨19, [(0, .sl 0 0 0 l.length), (1, .fn (.func G) [] [.ptr 1 0 0 0])], [(0, ixiB l), (1, { gen := 0, kind := 2, elem := E, size := s, inl := false, rows := [row] })]⟩
  have cap : l.length ≤ 9223372036854775807 := by omega
  repeat' (first | refine ZV ?_ | refine ZB tm sp ?_ | refine ZH (fun hb => ?_) (fun hb => ?_) | refine ZJ (by conv => lhs; simp [cap, ixiB]) ?_ | refine ZA (fun hb => ?_) (fun hb => ?_))
  refine W.loop rfl (ι := { q : Nat × NL ABlk // q.1 ≤ l.length ∧ ixiF p 0 l = ixiF p q.1 (l.drop q.1) ∧ lk q.2 0 = some (ixiB l) ∧ lk q.2 1 = some { gen := 0, kind := 2, elem := E, size := s, inl := false, rows := [row] } })
    (fun q => ⟨19, [(0, .sl 0 0 0 l.length), (1, .fn (.func G) [] [.ptr 1 0 0 0]), (7, .int .i64 l.length), (8, .int .i64 (q.1.1 : Nat))], q.1.2⟩) (fun q => l.length - q.1.1)
    ⟨(0, _), by simp, rfl, rfl, rfl⟩ (AS.le_of rfl ⟨rfl, rfl, rfl, rfl, trivial⟩ (fun _ => rfl)) ?_
  rintro ⟨⟨k, h⟩, hk, hf, h0, h1⟩
  dsimp only at hk hf h0 h1 ⊢
  by_cases hk2 : k = l.length
  · subst hk2
    rw [ixiF_end] at hf
    rw [hf]
    repeat' (first | refine ZV ?_ | refine ZB tm sp ?_ | refine ZH (fun hb => ?_) (fun hb => ?_) | refine ZJ (by conv => lhs; simp) ?_ | refine ZA (fun hb => ?_) (fun hb => ?_))
    exact RetB.raw [0, 1] rfl (by conv => lhs; simp) (by decide) (by intro i hi; rcases (show i = 0 ∨ i = 1 by omega) with rfl | rfl <;> simp [h0, h1, ixiB]) (by simp [h0, h1, rn, ixiB]) (by simp)
  · have hlt : k < l.length := by omega
    obtain ⟨m, hr⟩ := get_lt hlt
    have hm : (l.map iC)[k]? = some (iC m) := by rw [List.getElem?_map, hr]; rfl
    have q1 : (k : Int) < l.length := by omega
    have q2 : ¬ l.length ≤ k := by omega
    have hw : IntKind.i64.wrap ((k : Int) + 1) = ((k + 1 : Nat) : Int) := w64 (by omega) (by omega)
    rw [ixiF_drop hr] at hf
    have cf := eq m
    clear hlt hk2
    skip
    have h0' := h0
    unfold ixiB at h0
    cases ho : p m with
    | true =>
      rw [if_pos ho] at hf
      rw [hf]
      rw [ho] at cf
      repeat' (first | refine ZV ?_ | refine ZB tm sp ?_ | refine ZH (fun hb => ?_) (fun hb => ?_) | refine ZJ (by conv => lhs; simp [q1, q2, hm, cf, h0, h1, rf, rn, iC]) ?_ | refine ZA (fun hb => ?_) (fun hb => ?_))
      exact RetB.raw [0, 1] rfl (by conv => lhs; simp) (by decide) (by intro i hi; rcases (show i = 0 ∨ i = 1 by omega) with rfl | rfl <;> simp [h0, lk_st]) (by simp [h0, rn, lk_st, ixiB]) (by simp)
    | false =>
      rw [if_neg (by simp [ho])] at hf
      rw [ho] at cf
      repeat' (first | refine ZV ?_ | refine ZB tm sp ?_ | refine ZH (fun hb => ?_) (fun hb => ?_) | refine ZJ (by conv => lhs; simp [q1, q2, hm, cf, hw, h0, h1, rf, rn, iC]) ?_ | refine ZA (fun hb => ?_) (fun hb => ?_))
      exact ⟨⟨(k + 1, _), by dsimp only; omega, hf, by simp [lk_st, h0'], by simp [lk_st]⟩, by dsimp only; omega, AS.le_of rfl ⟨rfl, rfl, rfl, rfl, trivial⟩ (fun _ => rfl)⟩
end Go.Abs.Nz
namespace Go.Abs.Nz
open Go Go.Proofs Go.Abs
set_option maxRecDepth 100000
set_option maxHeartbeats 4000000
set_option linter.unusedSimpArgs false
set_option linter.unusedVariables false
attribute [local simp] instA
theorem ixiF_spec {p : Int → Bool} : ∀ (l : List Int) (k : Nat), (ixiF p k l = -1 ∧ l.any p = false) ∨ ∃ i x, ixiF p k l = ((k + i : Nat) : Int) ∧ l[i]? = some x ∧ p x = true ∧ (l.take i).filter (fun x => !p x) = l.take i
  | [], k => .inl ⟨rfl, rfl⟩
  | x :: r, k => by
    rw [ixiF]
    cases hp : p x with
    | true => exact .inr ⟨0, x, by simp, rfl, hp, by simp⟩
    | false =>
      rcases ixiF_spec (p := p) r (k + 1) with ⟨h1, h2⟩ | ⟨i, y, h1, h2, h3, h4⟩
      · exact .inl ⟨by simpa using h1, by simp [hp, h2]⟩
      · refine .inr ⟨i + 1, y, ?_, by simpa using h2, h3, ?_⟩
        · rw [if_neg (by simp), h1]
          congr 1
          omega
        · rw [List.take_succ_cons, List.filter_cons, if_pos (by simp [hp]), h4]
def fil (p : Int → Bool) (l : List Int) : List Int := l.filter fun x => !p x
def midD (p : Int → Bool) (l : List Int) (j : Nat) : List Int := fil p (l.take j) ++ l.drop (fil p (l.take j)).length
theorem fil_le (p : Int → Bool) (l : List Int) : (fil p l).length ≤ l.length := List.length_filter_le _ _
theorem fil_take (p : Int → Bool) (l : List Int) (j : Nat) : (fil p (l.take j)).length ≤ j := Nat.le_trans (fil_le _ _) (by simp; omega)
theorem fil_step {p : Int → Bool} {l : List Int} {j : Nat} {x : Int} (h : l[j]? = some x) : fil p (l.take (j + 1)) = if p x then fil p (l.take j) else fil p (l.take j) ++ [x] := by
  rw [fil, List.take_add_one, h, Option.toList_some, List.filter_append]
  cases hp : p x <;> simp [hp, fil]
theorem midD_len (p : Int → Bool) (l : List Int) (j : Nat) : (midD p l j).length = l.length := by
  have h1 := fil_take p l j
  have h2 : (fil p (l.take j)).length ≤ l.length := Nat.le_trans (fil_le _ _) (by simp; omega)
  simp [midD]; omega
theorem midD_get {p : Int → Bool} {l : List Int} {j : Nat} {x : Int} (h : l[j]? = some x) : (midD p l j)[j]? = some x := by
  have h1 := fil_take p l j
  rw [midD, List.getElem?_append_right h1, List.getElem?_drop, show (fil p (l.take j)).length + (j - (fil p (l.take j)).length) = j by omega, h]
theorem midD_set {p : Int → Bool} {l : List Int} {j : Nat} {x : Int} (h : l[j]? = some x) (hp : p x = false) : (midD p l j).set (fil p (l.take j)).length x = midD p l (j + 1) := by
  have h1 := fil_take p l j
  have hj := (List.getElem?_eq_some_iff.1 h).1
  rw [midD, midD, fil_step h, hp]
  simp only [Bool.false_eq_true, if_false, List.length_append, List.length_singleton]
  rw [List.set_append_right _ _ (Nat.le_refl _), Nat.sub_self, List.append_assoc]
  congr 1
  rw [List.drop_eq_getElem_cons (show (fil p (l.take j)).length < l.length by omega)]
  rfl
theorem midD_skip {p : Int → Bool} {l : List Int} {j : Nat} {x : Int} (h : l[j]? = some x) (hp : p x = true) : midD p l (j + 1) = midD p l j := by
  rw [midD, midD, fil_step h, hp]
  rfl
def ixiBg (g : Nat) (l : List Int) : ABlk := { gen := g, kind := 2, elem := 3, size := 1, inl := true, rows := l.map iC }
noncomputable def dli (v : ixiW) : SpecFn := mkS2 (fun l : {l : List Int // l.length ≤ 9100} => ([.sl 0 0 0 l.1.length, .fn (.func v.F) [] [.ptr 1 0 0 0]], [ixiB l.1, v.b])) fun l => (.sl 0 1 0 (fil v.p l.1).length, [ixiBg 1 (fil v.p l.1), v.b])
theorem dli_eq (v : ixiW) (l : List Int) (h : l.length ≤ 9100) : dli v [.sl 0 0 0 l.length, .fn (.func v.F) [] [.ptr 1 0 0 0]] [ixiB l, v.b] = some (.sl 0 1 0 (fil v.p l).length, [ixiBg 1 (fil v.p l), v.b]) :=
  mkS2_eq (enc := fun l : {l : List Int // l.length ≤ 9100} => ([AV.sl 0 0 0 l.1.length, .fn (.func v.F) [] [.ptr 1 0 0 0]], [ixiB l.1, v.b])) (res := fun l => (.sl 0 1 0 (fil v.p l.1).length, [ixiBg 1 (fil v.p l.1), v.b])) (fun x y h => by
    simp only [ixiB, Prod.mk.injEq, List.cons.injEq, ABlk.mk.injEq, true_and, and_true] at h
    rw [ixiC_inj h.2]) ⟨l, h⟩
theorem dli_ok (v : ixiW) : FnC Tryz.prog 80 (dli v) := by
  obtain ⟨G, ne, ne2, p, E, s, row, rf, rn, S, ok, eq⟩ := v
  have sp : ∀ q ∈ ([(123, ⟨3, ixi2 ⟨G, ne, ne2, p, E, s, row, rf, rn, S, ok, eq⟩⟩), (G, ⟨3, S⟩)] : NL Spec), FnC Tryz.prog q.1 q.2.fn := by
    simp only [List.mem_cons, List.not_mem_nil, or_false]
    rintro q (rfl | rfl)
    · exact ixi2_ok _
    · exact ok
  refine FnC.walkM 80 (fn := Tryz.f80) Tryz.func80 rfl (by kernel_rfl) (fun x b hb => by simp at hb; rcases hb with rfl | rfl <;> rfl) fun x => ?_
  obtain ⟨l, hl⟩ := x
  have cf := ixi2_eq ⟨G, ne, ne2, p, E, s, row, rf, rn, S, ok, eq⟩ l hl
  simp only [ixiW.b, ixiB] at cf
  change W _ (RetM _ _ 2 (.sl 0 1 0 (fil p l).length) [ixiBg 1 (fil p l), { gen := 0, kind := 2, elem := E, size := s, inl := false, rows := [row] }]) _ _ ⟨42, [(0, .sl 0 0 0 l.length), (1, .fn (.func G) [] [.ptr 1 0 0 0])], [(0, { gen := 0, kind := 2, elem := 3, size := 1, inl := true, rows := l.map iC }), (1, { gen := 0, kind := 2, elem := E, size := s, inl := false, rows := [row] })]⟩
  have cap : l.length ≤ 9223372036854775807 := by omega
  rcases ixiF_spec (p := p) l 0 with ⟨h1, h2⟩ | ⟨i, x, h1, h2, h3, h4⟩
  · rw [h1] at cf
    have e : fil p l = l := by
      rw [fil, List.filter_eq_self]
      intro a ha
      have := List.any_eq_false.1 h2 a ha
      simpa using this
    rw [e]
    repeat' (first | refine ZV ?_ | refine ZB tm sp ?_ | refine ZH (fun hb => ?_) (fun hb => ?_) | refine ZJ (by conv => lhs; simp [cf, rf, rn, cap]) ?_ | refine ZA (fun hb => ?_) (fun hb => ?_))
    refine retM2_ok false [0, 1] [1, 0] ?_
    simp [retM2, movedOK, oldOK, frqT, frqV, frqVs, frqL, frq1, expG, expB3, renB, AV.ren, renL, List.range, List.range.loop, resVs, resV, pack, List.zipWith, List.idxOf?, List.findIdx?, List.findIdx?.go, ixiBg, rn]
  · simp only [Nat.zero_add] at h1
    rw [h1] at cf
    have hi := (List.getElem?_eq_some_iff.1 h2).1
    have hw0 : IntKind.i64.wrap ((i : Int) + 1) = ((i + 1 : Nat) : Int) := w64 (by omega) (by omega)
    have n0 : ((i : Int) == -1) = false := by simp
    have n1 : (0 : Int) ≤ (i : Int) := by omega
    have m0 : midD p l (i + 1) = l := by
      rw [midD, fil_step h2, h3, if_pos rfl, fil, h4, List.length_take, Nat.min_eq_left (by omega), List.take_append_drop]
    have f0 : (fil p (l.take (i + 1))).length = i := by
      rw [fil_step h2, h3, if_pos rfl, fil, h4, List.length_take, Nat.min_eq_left (by omega)]
    repeat' (first | refine ZV ?_ | refine ZB tm sp ?_ | refine ZH (fun hb => ?_) (fun hb => ?_) | refine ZJ (by conv => lhs; simp [cf, rf, rn, cap, hw0, n0, n1]) ?_ | refine ZA (fun hb => ?_) (fun hb => ?_))
    refine W.loop rfl (ι := { q : Nat × NL ABlk // q.1 ≤ l.length ∧ lk q.2 0 = some { gen := 0, kind := 2, elem := 3, size := 1, inl := true, rows := (midD p l q.1).map iC } ∧ lk q.2 1 = some { gen := 0, kind := 2, elem := E, size := s, inl := false, rows := [row] } })
      (fun q => ⟨42, [(0, .sl 0 0 0 l.length), (1, .fn (.func G) [] [.ptr 1 0 0 0]), (5, .int .i64 ((fil p (l.take q.1.1)).length : Nat)), (6, .int .i64 (q.1.1 : Nat))], q.1.2⟩) (fun q => l.length - q.1.1)
      ⟨(i + 1, _), by dsimp only; omega, by dsimp only; rw [m0]; simp [lk_st], by simp [lk_st]⟩ (AS.le_of rfl ⟨rfl, rfl, by rw [f0]; rfl, rfl, trivial⟩ (fun _ => rfl)) ?_
    clear cf n0 n1 hw0 m0 f0 h1 h4
    rintro ⟨⟨j, h⟩, hj, g0, g1⟩
    dsimp only at hj g0 g1 ⊢
    have hml := midD_len p l j
    have hft := fil_take p l j
    obtain ⟨n, hn⟩ : ∃ n, (fil p (l.take j)).length = n := ⟨_, rfl⟩
    by_cases hj2 : j = l.length
    · subst hj2
      rw [List.take_length] at hn hft ⊢
      have hR : (midD p l l.length).take n = fil p l := by
        rw [midD, List.take_length, List.take_append, hn, Nat.sub_self, List.take_zero, List.append_nil, List.take_of_length_le (by omega)]
      rw [hn] at hft ⊢
      generalize midD p l l.length = R at *
      have k1 : n ≤ R.length := by omega
      have k2 : R.length ≤ 9223372036854775807 := by omega
      repeat (first | refine ZU ?_ | refine ZK tm sp rfl (by conv => lhs; simp [g0, g1, cap, hft, k1, k2, hml, maxLen]) fun _ => ?_ | refine ZL tm sp rfl (by conv => lhs; simp [g0, g1, cap, hft, k1, k2, hml, maxLen]) fun _ => ?_)
      refine W.shrink (t := 4) (id := 0) (g := 0) (k := n) (by rfl) (by simp [lk_st]; rfl) rfl rfl ?_
      try refine ZT ?_
      have e1 : List.take n (List.take n (List.map iC R) ++ (List.replicate (l.length - n) [AV.int IntKind.i64 0] ++ List.drop l.length (List.map iC R))) = (fil p l).map iC := by
        rw [List.take_append, List.length_take, List.length_map, Nat.min_eq_left k1, Nat.sub_self, List.take_zero, List.append_nil, List.take_take, Nat.min_self, ← List.map_take, hR]
      refine retM2_ok false [0, 1] [1, 0] ?_
      simp [retM2, movedOK, oldOK, frqT, frqV, frqVs, frqL, frq1, expG, expB3, renB, AV.ren, renL, List.range, List.range.loop, resVs, resV, pack, List.zipWith, List.idxOf?, List.findIdx?, List.findIdx?.go, ixiBg, rn, lk_st, g1, hn]
      exact e1
    · have hlt : j < l.length := by omega
      obtain ⟨m, hr⟩ := get_lt hlt
      have hm : ((midD p l j).map iC)[j]? = some (iC m) := by rw [List.getElem?_map, midD_get hr]; rfl
      have cf := eq m
      have hsk := midD_skip (p := p) hr
      have hst := midD_set (p := p) hr
      have fst := fil_step (p := p) hr
      rw [hn] at hst hft ⊢
      have q1 : (j : Int) < l.length := by omega
      have q2 : ¬ l.length ≤ j := by omega
      have q3 : (n : Int) < l.length := by omega
      have q4 : ¬ l.length ≤ n := by omega
      have hw : IntKind.i64.wrap ((j : Int) + 1) = ((j + 1 : Nat) : Int) := w64 (by omega) (by omega)
      have hw2 : IntKind.i64.wrap ((n : Int) + 1) = ((n + 1 : Nat) : Int) := w64 (by omega) (by omega)
      generalize hR : midD p l j = R at *
      clear hlt hj2
      cases ho : p m with
      | true =>
        rw [ho] at cf
        rw [ho, if_pos rfl] at fst
        have hsk := hsk ho
        repeat' (first | refine ZV ?_ | refine ZB tm sp ?_ | refine ZH (fun hb => ?_) (fun hb => ?_) | refine ZJ (by conv => lhs; simp [g0, g1, cap, q1, q2, hm, cf, hw, rf, rn, iC, hml, ne, ne2]) ?_ | refine ZA (fun hb => ?_) (fun hb => ?_))
        exact ⟨⟨(j + 1, _), by dsimp only; omega, by dsimp only; rw [hsk]; simp [lk_st, g0], by simp [lk_st]⟩, by dsimp only; omega, AS.le_of rfl ⟨rfl, rfl, by simp [lk, fst, hn], rfl, trivial⟩ (fun _ => rfl)⟩
      | false =>
        rw [ho] at cf
        rw [ho, if_neg (by simp)] at fst
        have hst := hst ho
        obtain ⟨y, hy⟩ := get_lt (l := R) (i := n) (by omega)
        have hy2 : (R.map iC)[n]? = some (iC y) := by rw [List.getElem?_map, hy]; rfl
        have hst2 : (R.map iC).set n [AV.int .i64 m] = (midD p l (j + 1)).map iC := by rw [← hst, List.map_set]; rfl
        repeat' (first | refine ZV ?_ | refine ZB tm sp ?_ | refine ZH (fun hb => ?_) (fun hb => ?_) | refine ZJ (by conv => lhs; simp [g0, g1, cap, q1, q2, q3, q4, hm, cf, hw, hw2, rf, rn, iC, hml, hst2, ne, ne2, hy2]) ?_ | refine ZA (fun hb => ?_) (fun hb => ?_))
        exact ⟨⟨(j + 1, _), by dsimp only; omega, by simp [lk_st], by simp [lk_st]⟩, by dsimp only; omega, AS.le_of rfl ⟨rfl, rfl, by simp [lk, fst, hn], rfl, trivial⟩ (fun _ => rfl)⟩
end Go.Abs.Nz
namespace Go.Abs.Nz
open Go Go.Proofs Go.Abs
set_option maxRecDepth 100000
set_option maxHeartbeats 4000000
set_option linter.unusedSimpArgs false
set_option linter.unusedVariables false
abbrev En := Dir.Ent Ob
def askC (p : Int × Int) : List AV := [.int .i64 p.1, .int .i64 p.2]
@[simp] def enC (e : En) : List AV := .int .u64 e.id :: .int .i64 e.owner :: .list 1 (e.readers.map iC) :: (e.obj.cells ++ [.list 1 (e.waiting.map iC), .list 2 (e.queue.map askC)])
theorem iC_inj {l m : List Int} (h : l.map iC = m.map iC) : l = m := map_inj' (fun a b h => by simpa [iC] using h) h
theorem askC_inj {l m : List (Int × Int)} (h : l.map askC = m.map askC) : l = m := map_inj' (fun a b h => by
  obtain ⟨a, b⟩ := a
  simpa [askC, Prod.ext_iff] using h) h
theorem enC_inj {s t : En} (h : enC s = enC t) : s = t := by
  obtain ⟨a, b, r, o, w, q⟩ := s
  obtain ⟨a', b', r', o', w', q'⟩ := t
  simp only [enC, List.cons.injEq, AV.int.injEq, AV.list.injEq, true_and] at h
  obtain ⟨rfl, rfl, h0, h⟩ := h
  obtain ⟨h1, h2⟩ := List.append_inj h (by simp)
  simp only [List.cons.injEq, AV.list.injEq, true_and, and_true] at h2
  cases iC_inj h0
  cases iC_inj h2.1
  cases askC_inj h2.2
  rw [Td.ext h1]
theorem enCs_inj {l m : List En} (h : l.map enC = m.map enC) : l = m := map_inj' (fun a b h => enC_inj h) h
def okE (e : En) : Prop := e.readers.length ≤ 9000 ∧ e.waiting.length ≤ 9000 ∧ e.queue.length ≤ 8000
structure Drs where
  node : Int
  ents : List En
  bd : ents.length ≤ 9000
  bde : ∀ e ∈ ents, okE e
def Drs.v (d : Drs) : AV := .agg [.int .i64 d.node, .list 41 (d.ents.map enC)]
theorem Drs.v_inj {s t : Drs} (h : s.v = t.v) : s = t := by
  obtain ⟨a, l, b, c⟩ := s
  obtain ⟨a', l', b', c'⟩ := t
  simp only [Drs.v, AV.agg.injEq, List.cons.injEq, AV.int.injEq, AV.list.injEq, true_and, and_true] at h
  obtain ⟨rfl, h⟩ := h
  cases enCs_inj h
  rfl
noncomputable def enS (f : En → Bool) : SpecFn := mkS (fun d : {e : En // okE e} => [.agg (enC d.1)]) fun d => (.bool (f d.1), [])
theorem enS_eq (f : En → Bool) (e : En) (h : okE e) : enS f [.agg (enC e)] [] = some (.bool (f e), []) :=
  mkS_eq (enc := fun d : {e : En // okE e} => [AV.agg (enC d.1)]) (res := fun d => (.bool (f d.1), [])) (fun x y h => by
    simp only [List.cons.injEq, AV.agg.injEq, and_true] at h
    rw [enC_inj h]) ⟨e, h⟩
attribute [local simp] instA
theorem nod_ok : FnC Tryz.prog 62 (boS okN) := by
  refine FnC.walk 62 (fn := Tryz.f62) Tryz.func62 rfl (by kernel_rfl) fun m => ?_
  change W _ (Ret _ _ (.bool (okN m)) []) _ _ ⟨9, [(0, .int .i64 m)], []⟩
  repeat' (first | refine ZV ?_ | refine ZB tm no_specs ?_ | refine ZH (fun hb => ?_) (fun hb => ?_) | refine ZJ (by conv => lhs; simp) ?_ | refine ZA (fun hb => ?_) (fun hb => ?_))
  all_goals (first | refine Ret.dataE rfl (by conv => lhs; simp) (by conv => lhs; simp) (by first | rfl | simp [inlT, inlV]) ?_ | refine RetNf.dataE rfl (by conv => lhs; simp) (by conv => lhs; simp) (by first | rfl | simp [inlT, inlV]) ?_)
  all_goals (first | rfl | (simp [okN]; done) | (simp_all [okN]; done) | (simp_all [okN]; omega))
theorem mod_ok : FnC Tryz.prog 63 (boS okM) := by
  refine FnC.walk 63 (fn := Tryz.f63) Tryz.func63 rfl (by kernel_rfl) fun m => ?_
  change W _ (Ret _ _ (.bool (okM m)) []) _ _ ⟨9, [(0, .int .i64 m)], []⟩
  repeat' (first | refine ZV ?_ | refine ZB tm no_specs ?_ | refine ZH (fun hb => ?_) (fun hb => ?_) | refine ZJ (by conv => lhs; simp) ?_ | refine ZA (fun hb => ?_) (fun hb => ?_))
  all_goals (first | refine Ret.dataE rfl (by conv => lhs; simp) (by conv => lhs; simp) (by first | rfl | simp [inlT, inlV]) ?_ | refine RetNf.dataE rfl (by conv => lhs; simp) (by conv => lhs; simp) (by first | rfl | simp [inlT, inlV]) ?_)
  all_goals (first | rfl | (simp [okM]; done) | (simp_all [okM]; done) | (simp_all [okM]; omega))
attribute [-simp] mkv
attribute [local simp] mkv_hd hdA_cons hdA_ob hdA_ob'
noncomputable def abs_specs : NL Spec := [(159, ⟨1, zeS⟩)]
theorem abs_specs_ok : ∀ p ∈ abs_specs, FnC Tryz.prog p.1 p.2.fn := by
  simp only [abs_specs, List.mem_cons, List.not_mem_nil, or_false]
  rintro p rfl
  exact zep_ok
attribute [local simp] abs_specs
theorem abs_ok : FnC Tryz.prog 122 zeS := by
  refine FnC.walk 122 (fn := Tryz.f122) Tryz.func122 rfl (by kernel_rfl) fun o => ?_
  have c3 := zeS_eq o
  change W _ (Ret _ _ (.bool (zO? o)) []) _ _ ⟨5, [(0, .agg o.cells)], []⟩
  repeat' (first | refine ZV ?_ | refine ZB tm abs_specs_ok ?_ | refine ZH (fun hb => ?_) (fun hb => ?_) | refine ZJ (by conv => lhs; simp [c3]) ?_ | refine ZA (fun hb => ?_) (fun hb => ?_))
  all_goals (first | refine Ret.dataE rfl (by conv => lhs; simp) (by conv => lhs; simp) (by first | rfl | simp [inlT, inlV]) ?_ | refine RetNf.dataE rfl (by conv => lhs; simp) (by conv => lhs; simp) (by first | rfl | simp [inlT, inlV]) ?_)
  all_goals (first | rfl | (simp; done) | (simp_all; done) | (simp_all; omega))
noncomputable def fit2_specs : NL Spec := [(122, ⟨1, zeS⟩)]
theorem fit2_specs_ok : ∀ p ∈ fit2_specs, FnC Tryz.prog p.1 p.2.fn := by
  simp only [fit2_specs, List.mem_cons, List.not_mem_nil, or_false]
  rintro p rfl
  exact abs_ok
attribute [local simp] fit2_specs
theorem fit2_ok : FnC Tryz.prog 79 fitS := by
  refine FnC.walk 79 (fn := Tryz.f79) Tryz.func79 rfl (by kernel_rfl) fun d => ?_
  obtain ⟨o, id⟩ := d
  have c3 := zeS_eq o
  change W _ (Ret _ _ (.bool (oid o == id || zO? o)) []) _ _ ⟨13, [(0, .agg o.cells), (1, .int .u64 id)], []⟩
  generalize zO? o = z at *
  generalize hoi : oid o = oi at *
  repeat' (first | refine ZV ?_ | refine ZB tm fit2_specs_ok ?_ | refine ZH (fun hb => ?_) (fun hb => ?_) | refine ZJ (by conv => lhs; simp [c3, hoi]) ?_ | refine ZA (fun hb => ?_) (fun hb => ?_))
  all_goals (first | refine Ret.dataE rfl (by conv => lhs; simp) (by conv => lhs; simp) (by first | rfl | simp [inlT, inlV]) ?_ | refine RetNf.dataE rfl (by conv => lhs; simp) (by conv => lhs; simp) (by first | rfl | simp [inlT, inlV]) ?_)
  all_goals (first | rfl | (simp; done) | (simp_all; done) | (simp_all; omega))
def goodN (l : List Int) (j : Nat) : Bool := match l[j]? with
  | none => true
  | some t => okN t && match j with
    | 0 => true
    | i + 1 => match l[i]? with
      | some s => decide (s < t)
      | none => true
def ascN (l : List Int) : Bool := (List.range l.length).all (goodN l)
theorem ascN_no {l : List Int} {k : Nat} (h : k < l.length) (hg : goodN l k = false) : ascN l = false := by
  unfold ascN
  rw [List.all_eq_false]
  exact ⟨k, List.mem_range.2 h, by simp [hg]⟩
theorem ascN_yes {l : List Int} (h : ∀ k, k < l.length → goodN l k = true) : ascN l = true := by
  unfold ascN
  rw [List.all_eq_true]
  exact fun k hk => h k (List.mem_range.1 hk)
noncomputable def ilS (f : List Int → Bool) : SpecFn := mkS (fun d : {l : List Int // l.length ≤ 9000} => [.list 1 (d.1.map iC)]) fun d => (.bool (f d.1), [])
theorem ilS_eq (f : List Int → Bool) (l : List Int) (h : l.length ≤ 9000) : ilS f [.list 1 (l.map iC)] [] = some (.bool (f l), []) :=
  mkS_eq (enc := fun d : {l : List Int // l.length ≤ 9000} => [AV.list 1 (d.1.map iC)]) (res := fun d => (.bool (f d.1), [])) (fun x y h => by
    simp only [List.cons.injEq, AV.list.injEq, true_and, and_true] at h
    rw [iC_inj h]) ⟨l, h⟩
noncomputable def asc_specs : NL Spec := [(62, ⟨1, boS okN⟩)]
theorem asc_specs_ok : ∀ p ∈ asc_specs, FnC Tryz.prog p.1 p.2.fn := by
  simp only [asc_specs, List.mem_cons, List.not_mem_nil, or_false]
  rintro p rfl
  exact nod_ok
attribute [local simp] asc_specs
theorem asc_ok : FnC Tryz.prog 127 (ilS ascN) := by
  refine FnC.walk 127 (fn := Tryz.f127) Tryz.func127 rfl (by kernel_rfl) fun d => ?_
  obtain ⟨l, hl⟩ := d
  change W _ (Ret _ _ (.bool (ascN l)) []) _ _ ⟨29, [(0, .list 1 (l.map iC))], []⟩
  have cap : l.length ≤ 9223372036854775807 := by omega
  repeat' (first | refine ZV ?_ | refine ZB tm asc_specs_ok ?_ | refine ZH (fun hb => ?_) (fun hb => ?_) | refine ZJ (by conv => lhs; simp [cap]) ?_ | refine ZA (fun hb => ?_) (fun hb => ?_))
  refine W.loop rfl (ι := { q : Nat × NL ABlk // q.1 ≤ l.length ∧ (∀ j, j < q.1 → goodN l j = true) })
    (fun q => ⟨29, [(0, .list 1 (l.map iC)), (5, .list 1 (l.map iC)), (6, .int .i64 l.length), (7, .int .i64 (q.1.1 : Nat))], q.1.2⟩) (fun q => l.length - q.1.1)
    ⟨(0, _), by simp, fun j hj => absurd hj (by simp)⟩ (AS.le_of rfl ⟨rfl, rfl, rfl, rfl, trivial⟩ (fun _ => rfl)) ?_
  rintro ⟨⟨k, h⟩, hk, hg⟩
  dsimp only at hk hg ⊢
  by_cases hk2 : k = l.length
  · subst hk2
    rw [ascN_yes hg]
    repeat' (first | refine ZV ?_ | refine ZB tm asc_specs_ok ?_ | refine ZH (fun hb => ?_) (fun hb => ?_) | refine ZJ (by conv => lhs; simp) ?_ | refine ZA (fun hb => ?_) (fun hb => ?_))
    all_goals (first | refine Ret.dataE rfl (by conv => lhs; simp) (by conv => lhs; simp) (by first | rfl | simp [inlT, inlV]) ?_ | refine RetNf.dataE rfl (by conv => lhs; simp) (by conv => lhs; simp) (by first | rfl | simp [inlT, inlV]) ?_)
    all_goals (first | rfl | (simp; done) | (simp_all; done) | (simp_all; omega))
  · have hlt : k < l.length := by omega
    obtain ⟨t, hr⟩ := get_lt hlt
    have hm : (l.map iC)[k]? = some [.int .i64 t] := by rw [List.getElem?_map, hr]; rfl
    have q1 : (k : Int) < l.length := by omega
    have q2 : ¬ l.length ≤ k := by omega
    have hw : IntKind.i64.wrap ((k : Int) + 1) = ((k + 1 : Nat) : Int) := w64 (by omega) (by omega)
    have cf := boS_eq okN t
    cases hf : okN t with
    | false =>
      rw [hf] at cf
      rw [ascN_no hlt (by simp [goodN, hr, hf])]
      repeat' (first | refine ZV ?_ | refine ZB tm asc_specs_ok ?_ | refine ZH (fun hb => ?_) (fun hb => ?_) | refine ZJ (by conv => lhs; simp [q1, q2, hm, cf]) ?_ | refine ZA (fun hb => ?_) (fun hb => ?_))
      all_goals (first | refine Ret.dataE rfl (by conv => lhs; simp) (by conv => lhs; simp) (by first | rfl | simp [inlT, inlV]) ?_ | refine RetNf.dataE rfl (by conv => lhs; simp) (by conv => lhs; simp) (by first | rfl | simp [inlT, inlV]) ?_)
      all_goals (first | rfl | (simp; done) | (simp_all; done) | (simp_all; omega))
    | true =>
      rw [hf] at cf
      by_cases hz : k = 0
      · have hgk : goodN l k = true := by subst hz; simp [goodN, hr, hf]
        have hgn : ∀ j, j < k + 1 → goodN l j = true := fun j hj => by
          have h0 : j = k := by omega
          subst h0
          exact hgk
        have q5 : ¬ (0 : Int) < (k : Int) := by omega
        have q6 : ¬ 0 < k := by omega
        clear hz
        repeat' (first | refine ZV ?_ | refine ZB tm asc_specs_ok ?_ | refine ZH (fun hb => ?_) (fun hb => ?_) | refine ZJ (by conv => lhs; simp [q1, q2, q5, q6, hm, cf, hw]) ?_ | refine ZA (fun hb => ?_) (fun hb => ?_))
        exact ⟨⟨(k + 1, _), hlt, hgn⟩, by dsimp only; omega, AS.le_of rfl ⟨rfl, rfl, rfl, rfl, trivial⟩ (fun _ => rfl)⟩
      · obtain ⟨j, hj⟩ : ∃ j, k = j + 1 := ⟨k - 1, by omega⟩
        obtain ⟨s, hs⟩ := get_lt (l := l) (i := j) (by omega)
        have hms : (l.map iC)[j]? = some [.int .i64 s] := by rw [List.getElem?_map, hs]; rfl
        have q3 : ¬ l.length ≤ j := by omega
        have q4 : (0 : Int) < (k : Int) := by omega
        have q4' : 0 < k := by omega
        have hd : IntKind.i64.wrap ((k : Int) - 1) = (j : Int) := by rw [w64 (by omega) (by omega)]; omega
        have q1' : (j : Int) < l.length := by omega
        by_cases hc : s < t
        · have hgk : goodN l k = true := by subst hj; simp [goodN, hr, hf, hs, hc]
          have hc2 : ¬ t ≤ s := by omega
          have hgn : ∀ i, i < k + 1 → goodN l i = true := fun i hi => by
            by_cases e : i = k
            · subst e
              exact hgk
            · exact hg i (by omega)
          repeat' (first | refine ZV ?_ | refine ZB tm asc_specs_ok ?_ | refine ZH (fun hb => ?_) (fun hb => ?_) | refine ZJ (by conv => lhs; simp [q1, q1', q2, q3, q4, q4', hm, hms, cf, hw, hd, hc2]) ?_ | refine ZA (fun hb => ?_) (fun hb => ?_))
          exact ⟨⟨(k + 1, _), hlt, hgn⟩, by dsimp only; omega, AS.le_of rfl ⟨rfl, rfl, rfl, rfl, trivial⟩ (fun _ => rfl)⟩
        · rw [ascN_no hlt (by subst hj; simp [goodN, hr, hf, hs, hc])]
          have hc2 : t ≤ s := by omega
          repeat' (first | refine ZV ?_ | refine ZB tm asc_specs_ok ?_ | refine ZH (fun hb => ?_) (fun hb => ?_) | refine ZJ (by conv => lhs; simp [q1, q1', q2, q3, q4, q4', hm, hms, cf, hw, hd, hc2]) ?_ | refine ZA (fun hb => ?_) (fun hb => ?_))
          all_goals (first | refine Ret.dataE rfl (by conv => lhs; simp) (by conv => lhs; simp) (by first | rfl | simp [inlT, inlV]) ?_ | refine RetNf.dataE rfl (by conv => lhs; simp) (by conv => lhs; simp) (by first | rfl | simp [inlT, inlV]) ?_)
          all_goals (first | rfl | (simp; done) | (simp_all; done) | (simp_all; omega))
theorem ascN_iff {l : List Int} : ascN l = true ↔ (∀ x ∈ l, okN x = true) ∧ Dir.Asc l := by
  constructor
  · intro h
    have hg : ∀ k, k < l.length → goodN l k = true := fun k hk => by
      unfold ascN at h
      rw [List.all_eq_true] at h
      exact h k (List.mem_range.2 hk)
    have h1 : ∀ k (hk : k < l.length), okN l[k] = true := fun k hk => by
      have := hg k hk
      unfold goodN at this
      rw [List.getElem?_eq_getElem hk] at this
      simp only [Bool.and_eq_true] at this
      exact this.1
    have h2 : ∀ k (hk : k + 1 < l.length), l[k] < l[k + 1] := fun k hk => by
      have := hg (k + 1) hk
      unfold goodN at this
      rw [List.getElem?_eq_getElem hk] at this
      simp only [List.getElem?_eq_getElem (show k < l.length by omega), Bool.and_eq_true, decide_eq_true_eq] at this
      exact this.2
    refine ⟨fun x hx => ?_, ?_⟩
    · obtain ⟨k, hk, rfl⟩ := List.mem_iff_getElem.1 hx
      exact h1 k hk
    · rw [Dir.Asc, List.pairwise_iff_getElem]
      intro i j hi hj hij
      induction j with
      | zero => omega
      | succ j ih =>
        by_cases e : i = j
        · subst e; exact h2 i hj
        · have := ih (by omega) (by omega)
          have := h2 j hj
          omega
  · rintro ⟨h1, h2⟩
    refine ascN_yes fun k hk => ?_
    unfold goodN
    rw [List.getElem?_eq_getElem hk]
    simp only [h1 _ (List.getElem_mem hk), Bool.true_and]
    cases k with
    | zero => rfl
    | succ i =>
      simp only [List.getElem?_eq_getElem (show i < l.length by omega), decide_eq_true_eq]
      exact List.pairwise_iff_getElem.1 h2 i (i + 1) (by omega) hk (by omega)
end Go.Abs.Nz
