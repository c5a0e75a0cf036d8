/- TokenHeld, walked. Conditions: none. -/
import Derived.Test.YtidbfifednannaaFiC
namespace Go.Abs.Fi
open Go Go.Proofs Go.Abs
set_option maxRecDepth 100000
set_option maxHeartbeats 4000000
set_option linter.unusedSimpArgs false
set_option linter.unusedVariables false
def th_specs (S : FuncId → SpecFn) : NL Spec := [(13, ⟨1, S 13⟩), (14, ⟨1, S 14⟩), (15, ⟨1, S 15⟩), (16, ⟨1, S 16⟩), (17, ⟨1, S 17⟩), (18, ⟨1, S 18⟩), (19, ⟨1, S 19⟩)]
/-- What is known of the calls. -/
structure ThF (S : FuncId → SpecFn) : Prop where
  ok : ∀ p ∈ th_specs S, FnC Try.prog p.1 p.2.fn
  t13 : S 13 [] [] = some (.bool true, [])
  t14 : S 14 [.agg [.int .i64 2, .nils], .agg (obj 0)] [] = some (.tup [toks 0 false false, .int .i64 0], [])
  t15 : S 15 [toks 0 false false, .int .u64 144115188075855881, .int .i64 2] [] = some (.tup [toks 0 true false, .int .i64 0], [])
  t16f (v : Int) : S 16 [toks v true false, msg] [] = some (.tup [toks v true true, .nils, .int .i64 0], [])
  t16t (v : Int) : S 16 [toks v true true, msg] [] = some (.tup [toks v true true, .nils, .int .i64 0], [])
  t17 (v : Int) : S 17 [toks v true true, .int .u64 144115188075855881, .int .i64 2] [] = some (.bool true, [])
  t18 (v w : Int) : S 18 [toks v true true, .int .u64 144115188075855881, .agg (obj w)] [] = some (.tup [toks w true true, .int .i64 0], [])
  t19 (v : Int) : S 19 [toks v true true, .list 1 [[.int .i64 1]]] [] = some (.tup [noToks, .list 45 [back v], .int .i64 0], [])
  t19n : S 19 [toks 0 true false, .nils] [] = some (.tup [toks 0 false false, .nils, .int .i64 0], [])
  t17z : S 17 [noToks, .int .u64 144115188075855881, .int .i64 1] [] = some (.bool false, [])
  t17n : S 17 [toks 0 false false, .int .u64 144115188075855881, .int .i64 1] [] = some (.bool true, [])
  t16z : S 16 [noToks, msg] [] = some (.tup [noToks, .nils, .int .i64 0], [])
  t16n : S 16 [toks 0 false false, msg] [] = some (.tup [noToks, .list 45 [back 0], .int .i64 0], [])
theorem thF : ThF pf where
  ok := by
    simp only [th_specs, List.mem_cons, List.not_mem_nil, or_false]
    rintro p (rfl | rfl | rfl | rfl | rfl | rfl | rfl)
    · exact pf_ok 13 Try.func13 rfl
    · exact pf_ok 14 Try.func14 rfl
    · exact pf_ok 15 Try.func15 rfl
    · exact pf_ok 16 Try.func16 rfl
    · exact pf_ok 17 Try.func17 rfl
    · exact pf_ok 18 Try.func18 rfl
    · exact pf_ok 19 Try.func19 rfl
  t13 := t13
  t14 := t14
  t15 := t15
  t16f := t16f
  t16t := t16t
  t17 := t17
  t18 := t18
  t19 := t19
  t19n := t19n
  t17z := t17z
  t17n := t17n
  t16z := t16z
  t16n := t16n
attribute [local simp] runL stepA execA_eq skipA run_ret run_fail run_get run_put run_asm num lk st lk_st putA AS.ev ofValue ofFlat mkv splice fieldAddrA buildA fillA runF gdst pickA unOpA extractA resVs resV pack frzT inlT inlV frzV frzVs frzL frz1 newId AV.cellsOf AV.flat AV.flat2 specOf loadA_runR capA copyA copyTo srcA sliceCA slice3A appendZA extA AV.place lenCA clearA clearTo expG expB3 List.zipWith renL fF handB renB AV.ren backF backL idsOf freshIds refsL refsB AV.refs List.range List.range.loop placesA sliceRows rowsOf convertA sliceArrA sliceA bndA nilCheckA arrayAtA mmA lookupA keyOf keyOK findA keyEqA foundA makeMapA mapUpdateA appendA rowsA indexA partA fieldA retE2 frqT frqV frqVs frqL frq1 reachE blkRefs outE nodupE firstE seqO expB2 expF instA th_specs
def encV (L : { L : List Int // L.length ≤ maxLen }) : List AV := [.list 1 (L.1.map fun n => [.int .i64 n])]
theorem encV_inj {β : Type} {f : { L : List Int // L.length ≤ maxLen } → β} : ∀ x y, encV x = encV y → f x = f y := fun x y h => by
  simp only [encV, List.cons.injEq, AV.list.injEq, true_and, and_true] at h
  have := (List.map_inj_right (f := fun n : Int => [AV.int .i64 n]) (fun a b h => by simpa using h)).1 h
  rw [Subtype.ext this]
def tB (v : Int) (d : Bool) : ABlk := { gen := 1, kind := 2, elem := 60, size := 2, rows := [[.int .i64 2, .list 41 [tokrow v true d]]] }
noncomputable def heldS : SpecFn := mkS encV fun _ => (.bool true, [])
theorem held_ok' (S : FuncId → SpecFn) (F : ThF S) : FnC Try.prog 4 heldS := by
  have f13 := F.t13
  refine FnC.walk 4 (fn := Try.f4) Try.func4 rfl (by kernel_rfl) fun L => ?_
  obtain ⟨L, hL⟩ := L
  change W _ _ _ _ ⟨167, [(0, .list 1 (L.map fun n => [.int .i64 n]))], []⟩
  have hL' : L.length ≤ 9223372036854775807 := Nat.le_trans hL (by decide)
  by_cases hbig : 20 < L.length
  · have q : (20 : Int) < L.length := by omega
    repeat (first | refine N.seq ?_ | refine N.blk ?_ | refine W.seq rfl ?_ | refine W.block rfl ?_ | refine W.skip rfl ?_ | refine W.ret rfl ?_ | refine N.nil ?_ | refine N.loop ?_ | refine W.exit rfl ?_ | refine X.seq ?_ | refine X.loop ?_ | refine X.hit ?_ | refine X.pass (by decide) ?_ | refine W.condT rfl (by rfl) ?_ | refine W.condF rfl (by rfl) ?_ | refine W.region tm F.ok rfl (by conv => lhs; simp [q, hL, f13]) fun _ => ?_ | refine W.regionD tm F.ok rfl (by conv => lhs; simp [q, hL, f13]) (by conv => lhs; simp) (by kernel_rfl) fun _ => ?_)
    first | exact Ret.dataR rfl (by conv => lhs; simp) (by conv => lhs; simp) (by first | rfl | simp [inlT, inlV]) | fail "no return here"
  · have q : ¬ (20 : Int) < L.length := by omega
    have f14 := F.t14
    have f15 := F.t15
    simp only [toks, obj] at f14 f15
    repeat (first | refine N.seq ?_ | refine N.blk ?_ | refine W.seq rfl ?_ | refine W.block rfl ?_ | refine W.skip rfl ?_ | refine W.ret rfl ?_ | refine N.nil ?_ | refine N.loop ?_ | refine W.exit rfl ?_ | refine X.seq ?_ | refine X.loop ?_ | refine X.hit ?_ | refine X.pass (by decide) ?_ | refine W.condT rfl (by rfl) ?_ | refine W.condF rfl (by rfl) ?_ | refine W.region tm F.ok rfl (by conv => lhs; simp [q, hL, f13, f14, f15]) fun _ => ?_ | refine W.regionD tm F.ok rfl (by conv => lhs; simp [q, hL, f13, f14, f15]) (by conv => lhs; simp) (by kernel_rfl) fun _ => ?_)
    refine W.loop rfl (ι := { q : Nat × Int × Bool × NL ABlk // q.1 ≤ L.length ∧ (q.2.2.1 = false → q.1 = 0 ∧ q.2.1 = 0) ∧ (q.2.2.1 = true → 0 < q.1) ∧ lk q.2.2.2 80 = some (tB q.2.1 q.2.2.1) })
      (fun q => ⟨167, [(49, .int .i64 (q.1.1 : Nat)), (48, .int .i64 (L.length : Nat)), (47, .list 1 (L.map fun n => [.int .i64 n])), (7, .int .i64 q.1.2.1), (4, .ptr 80 1 0 0), (3, .int .u64 144115188075855881), (0, .list 1 (L.map fun n => [.int .i64 n]))], q.1.2.2.2⟩)
      (fun q => L.length - q.1.1) ⟨(0, 0, false, _), by simp, by simp, by simp, by rfl⟩ (AS.le_of rfl ⟨rfl, rfl, rfl, rfl, rfl, rfl, rfl, trivial⟩ (fun _ => rfl)) ?_
    rintro ⟨⟨k, v, d, h⟩, hk, h0, h1, hh⟩
    dsimp only at hk h0 h1 hh ⊢
    by_cases hkl : k = L.length
    · subst hkl
      have q1 : ¬ (L.length : Int) < L.length := by omega
      cases d
      · obtain ⟨q2, rfl⟩ := h0 rfl
        have hL0 : L = [] := List.eq_nil_of_length_eq_zero q2
        subst hL0
        have f19 := F.t19n
        have f17 := F.t17n
        have f16 := F.t16n
        simp only [toks, msg, noToks] at f19 f17 f16
        simp only [List.length_nil] at q1 ⊢
        repeat (first | refine N.seq ?_ | refine N.blk ?_ | refine W.seq rfl ?_ | refine W.block rfl ?_ | refine W.skip rfl ?_ | refine W.ret rfl ?_ | refine N.nil ?_ | refine N.loop ?_ | refine W.exit rfl ?_ | refine X.seq ?_ | refine X.loop ?_ | refine X.hit ?_ | refine X.pass (by decide) ?_ | refine W.condT rfl (by rfl) ?_ | refine W.condF rfl (by rfl) ?_ | refine W.region tm F.ok rfl (by conv => lhs; simp [q1, hh, tB, f19, f17, f16]) fun _ => ?_ | refine W.regionD tm F.ok rfl (by conv => lhs; simp [q1, hh, tB, f19, f17, f16]) (by conv => lhs; simp) (by kernel_rfl) fun _ => ?_)
        refine W.zero rfl ?_
        repeat (first | refine N.seq ?_ | refine N.blk ?_ | refine W.seq rfl ?_ | refine W.block rfl ?_ | refine W.skip rfl ?_ | refine W.ret rfl ?_ | refine N.nil ?_ | refine N.loop ?_ | refine W.exit rfl ?_ | refine X.seq ?_ | refine X.loop ?_ | refine X.hit ?_ | refine X.pass (by decide) ?_ | refine W.condT rfl (by rfl) ?_ | refine W.condF rfl (by rfl) ?_ | refine W.region tm F.ok rfl (by conv => lhs; simp [q1, hh, tB, f19, f17, f16]) fun _ => ?_ | refine W.regionD tm F.ok rfl (by conv => lhs; simp [q1, hh, tB, f19, f17, f16]) (by conv => lhs; simp) (by kernel_rfl) fun _ => ?_)
        first | exact Ret.dataR rfl (by conv => lhs; simp) (by conv => lhs; simp) (by first | rfl | simp [inlT, inlV]) | fail "no return here"
      · have q3 := h1 rfl
        have q4 : 0 < L.length := q3
        have f19 := F.t19 v
        have f17 := F.t17z
        have f16 := F.t16z
        simp only [toks, msg, noToks] at f19 f17 f16
        repeat (first | refine N.seq ?_ | refine N.blk ?_ | refine W.seq rfl ?_ | refine W.block rfl ?_ | refine W.skip rfl ?_ | refine W.ret rfl ?_ | refine N.nil ?_ | refine N.loop ?_ | refine W.exit rfl ?_ | refine X.seq ?_ | refine X.loop ?_ | refine X.hit ?_ | refine X.pass (by decide) ?_ | refine W.condT rfl (by rfl) ?_ | refine W.condF rfl (by rfl) ?_ | refine W.region tm F.ok rfl (by conv => lhs; simp [q1, q4, hh, tB, f19, f17, f16, maxLen]) fun _ => ?_ | refine W.regionD tm F.ok rfl (by conv => lhs; simp [q1, q4, hh, tB, f19, f17, f16, maxLen]) (by conv => lhs; simp) (by kernel_rfl) fun _ => ?_)
        refine W.once ?_ rfl ?_ ?_
        rotate_left
        · repeat (first | refine N.seq ?_ | refine N.blk ?_ | refine W.seq rfl ?_ | refine W.block rfl ?_ | refine W.skip rfl ?_ | refine W.ret rfl ?_ | refine N.nil ?_ | refine N.loop ?_ | refine W.exit rfl ?_ | refine X.seq ?_ | refine X.loop ?_ | refine X.hit ?_ | refine X.pass (by decide) ?_ | refine W.condT rfl (by rfl) ?_ | refine W.condF rfl (by rfl) ?_ | refine W.region tm F.ok rfl (by conv => lhs; simp [q1, q4, hh, tB, back]) fun _ => ?_ | refine W.regionD tm F.ok rfl (by conv => lhs; simp [q1, q4, hh, tB, back]) (by conv => lhs; simp) (by kernel_rfl) fun _ => ?_)
          rfl
        · repeat (first | refine N.seq ?_ | refine N.blk ?_ | refine W.seq rfl ?_ | refine W.block rfl ?_ | refine W.skip rfl ?_ | refine W.ret rfl ?_ | refine N.nil ?_ | refine N.loop ?_ | refine W.exit rfl ?_ | refine X.seq ?_ | refine X.loop ?_ | refine X.hit ?_ | refine X.pass (by decide) ?_ | refine W.condT rfl (by rfl) ?_ | refine W.condF rfl (by rfl) ?_ | refine W.region tm F.ok rfl (by conv => lhs; simp [q1, q4, hh, tB, f16, back]) fun _ => ?_ | refine W.regionD tm F.ok rfl (by conv => lhs; simp [q1, q4, hh, tB, f16, back]) (by conv => lhs; simp) (by kernel_rfl) fun _ => ?_)
          first | exact Ret.dataR rfl (by conv => lhs; simp) (by conv => lhs; simp) (by first | rfl | simp [inlT, inlV]) | fail "no return here"
    · have hlt : k < L.length := by omega
      have q1 : (k : Int) < L.length := by omega
      have q2 : ¬ L.length ≤ k := by omega
      obtain ⟨x, hx⟩ := get_lt hlt
      have hw := w64_succ hlt hL
      have f16 : S 16 [toks v true d, msg] [] = some (.tup [toks v true true, .nils, .int .i64 0], []) := by
        cases d
        · exact F.t16f v
        · exact F.t16t v
      have f17 := F.t17 v
      have f18 := F.t18 v x
      simp only [toks, msg, obj] at f16 f17 f18
      repeat (first | refine N.seq ?_ | refine N.blk ?_ | refine W.seq rfl ?_ | refine W.block rfl ?_ | refine W.skip rfl ?_ | refine W.ret rfl ?_ | refine N.nil ?_ | refine N.loop ?_ | refine W.exit rfl ?_ | refine X.seq ?_ | refine X.loop ?_ | refine X.hit ?_ | refine X.pass (by decide) ?_ | refine W.condT rfl (by rfl) ?_ | refine W.condF rfl (by rfl) ?_ | refine W.region tm F.ok rfl (by conv => lhs; simp [q1, q2, hx, hw, f16, f17, f18, hh, tB]) fun _ => ?_ | refine W.regionD tm F.ok rfl (by conv => lhs; simp [q1, q2, hx, hw, f16, f17, f18, hh, tB]) (by conv => lhs; simp) (by kernel_rfl) fun _ => ?_)
      exact ⟨⟨(k + 1, x, true, _), hlt, by simp, by simp, by simp [lk_st, lk, tB]⟩, by dsimp only; omega, AS.le_of rfl ⟨rfl, rfl, rfl, rfl, rfl, rfl, rfl, trivial⟩ (fun _ => rfl)⟩
theorem held_ok : FnC Try.prog 4 heldS := held_ok' pf thF
end Go.Abs.Fi
