/- HostArrives, walked. Conditions: none. -/
import Derived.Test.YtidbfifednannaaFiH
import Derived.Test.YtidbfifednannaaFiI
import Derived.Test.YtidbfifednannaaFiK
namespace Go.Abs.Fi
open Go Go.Proofs Go.Abs
set_option maxRecDepth 100000
set_option maxHeartbeats 4000000
set_option linter.unusedSimpArgs false
set_option linter.unusedVariables false
attribute [local simp] runL stepA execA_eq skipA run_ret run_fail run_get run_put run_asm num lk st lk_st putA AS.ev ofValue ofFlat mkv splice fieldAddrA buildA fillA runF gdst pickA unOpA extractA resVs resV pack frzT inlT inlV frzV frzVs frzL frz1 newId AV.cellsOf AV.flat AV.flat2 specOf loadA_runR capA copyA copyTo srcA sliceCA slice3A appendZA extA AV.place lenCA clearA clearTo expG expB3 List.zipWith renL fF handB renB AV.ren backF backL idsOf freshIds refsL refsB AV.refs List.range List.range.loop placesA sliceRows rowsOf convertA sliceArrA sliceA bndA nilCheckA arrayAtA mmA lookupA keyOf keyOK findA keyEqA foundA makeMapA mapUpdateA appendA rowsA indexA partA fieldA retE2 frqT frqV frqVs frqL frq1 reachE blkRefs outE nodupE firstE seqO expB2 expF instA nod ha_specs cellish_hv isInl_hv inl2_hv ren_hv refs_hv R_len
theorem arr_ok' (S : FuncId → SpecFn) (F : HaF S) (L : List Int) (hL : L.length ≤ maxLen) : V Try.prog (RetM Try.prog Try.f5 0 (.bool true) []) (codeOf Try.f5) [] (init2 Try.f5 [.list 1 (L.map ic)] []) := by
  have f20 := F.f20
  have fn := newS_eq L
  change V _ _ _ _ ⟨168, [(0, .list 1 (L.map ic))], []⟩
  repeat (first | refine NV.seq ?_ | refine NV.blk ?_ | refine V.seq rfl ?_ | refine V.block rfl ?_ | refine V.skip rfl ?_ | refine V.ret rfl ?_ | refine NV.nil ?_ | refine NV.loop ?_ | refine V.exit rfl ?_ | refine XV.seq ?_ | refine XV.loop ?_ | refine XV.hit ?_ | refine XV.pass (by decide) ?_ | refine V.condT rfl (by rfl) ?_ | refine V.condF rfl (by rfl) ?_ | refine V.region tm F.ok rfl (by conv => lhs; simp [f20, fn, maxLen]) fun _ => ?_ | refine V.regionD tm F.ok rfl (by conv => lhs; simp [f20, fn, maxLen]) (by conv => lhs; simp) (by kernel_rfl) fun _ => ?_)
  refine V.frz 4 rfl (by conv => lhs; simp [frqT, frqV, frqVs, frqL, frq1]) ?_
  refine V.phantom (t := 5) 1000 84 15 rfl rfl (by decide) ?_
  repeat (first | refine NV.seq ?_ | refine NV.blk ?_ | refine V.seq rfl ?_ | refine V.block rfl ?_ | refine V.skip rfl ?_ | refine V.ret rfl ?_ | refine NV.nil ?_ | refine NV.loop ?_ | refine V.exit rfl ?_ | refine XV.seq ?_ | refine XV.loop ?_ | refine XV.hit ?_ | refine XV.pass (by decide) ?_ | refine V.condT rfl (by rfl) ?_ | refine V.condF rfl (by rfl) ?_ | refine V.region tm F.ok rfl (by conv => lhs; simp [f20, fn, maxLen]) fun _ => ?_ | refine V.regionD tm F.ok rfl (by conv => lhs; simp [f20, fn, maxLen]) (by conv => lhs; simp) (by kernel_rfl) fun _ => ?_)
  refine V.loop rfl (ι := { q : Nat × NL ABlk // q.1 ≤ 4 ∧ lk q.2 1000 = some (stB (fun _ => 0) q.1) ∧ lk q.2 416 = some (dk1 L 0) ∧ lk q.2 2000 = none })
    (fun q => ⟨168, [(29, .int .i64 (q.1.1 : Nat)), (28, .int .i64 4), (5, .sl 1000 q.1.1 0 q.1.1), (4, nod), (3, .ptr 416 1 0 0)], q.1.2⟩) (fun q => 4 - q.1.1)
    ⟨(0, _), by simp, by rfl, by rfl, by rfl⟩ (AS.le_of rfl ⟨rfl, rfl, rfl, rfl, rfl, trivial⟩ (fun _ => rfl)) ?_
  rintro ⟨⟨k, h⟩, hk, h1, h2, h3⟩
  dsimp only at hk h1 h2 h3 ⊢
  by_cases hk4 : k = 4
  · subst hk4
    have f23 := F.f23
    simp only [stc, Int.ofNat_zero, Int.natCast_zero] at f23
    have hg : ∀ h, (R (fun _ => 0) 4)[0]'h = stc 0 0 := fun h => R_getE _ h
    have hset := R_set (fun _ => 0) (n := 0) (y := 2) 4
    simp only [stc, Int.ofNat_zero, Int.natCast_zero] at hg hset
    repeat (first | refine NV.seq ?_ | refine NV.blk ?_ | refine V.seq rfl ?_ | refine V.block rfl ?_ | refine V.skip rfl ?_ | refine V.ret rfl ?_ | refine NV.nil ?_ | refine NV.loop ?_ | refine V.exit rfl ?_ | refine XV.seq ?_ | refine XV.loop ?_ | refine XV.hit ?_ | refine XV.pass (by decide) ?_ | refine V.condT rfl (by rfl) ?_ | refine V.condF rfl (by rfl) ?_ | refine V.region tm F.ok rfl (by conv => lhs; simp [h1, h2, h3, f23, stB, hg, hset]) fun _ => ?_ | refine V.regionD tm F.ok rfl (by conv => lhs; simp [h1, h2, h3, f23, stB, hg, hset]) (by conv => lhs; simp) (by kernel_rfl) fun _ => ?_)
    refine V.phantom (t := 12) 2000 51 45 rfl (by simp [lk_st, h3]) (by decide) ?_
    refine V.loop rfl (ι := { q : HS // HI L 0 0 q }) (fun q => HJ q.1) (fun q => 60 - q.1.k)
      ⟨⟨0, 0, 0, 0, upv (fun _ => 0) 0 2, [], 2000, 0, [], 0, _⟩, by simp, by simp, by simp, by simp, by simp, .at rfl (by simp [upv]) (fun n _ hn => by simp [upv, hn]) (by simp), by simp, by simp [lk, lk_st, stB], by simp [lk, lk_st, h2], by rfl⟩ (AS.le_of rfl ⟨rfl, rfl, rfl, rfl, rfl, rfl, rfl, rfl, trivial⟩ (fun _ => rfl)) ?_
    clear h1 h2 h3 f23 hg hset h fn f20
    rintro ⟨⟨k, pl, ps, us, v, w, id, g, pre, dk, h⟩, hI⟩
    have hk := hI.k
    have hpl := hI.pl
    have hps := hI.ps
    have hdk := hI.dk
    have hus := hI.us
    have b1 := hI.b1
    have b2 := hI.b2
    have b3 := hI.b3
    dsimp only [HJ] at hk hpl hps hdk hus b1 b2 b3 ⊢
    have qk : (pl : Int) < 4 := by omega
    obtain ⟨n1, n2, n3, n4, n5⟩ : id ≠ 1000 ∧ id ≠ 416 ∧ id ≠ 256 ∧ id ≠ 288 ∧ id ≠ 304 := by
      have := hI.hid
      dsimp only at this
      omega
    have hid : id = 2000 ∨ id = 1232 ∨ id = 2112 := hI.hid
    have n1' := n1.symm
    have n2' := n2.symm
    have n3' := n3.symm
    have n4' := n4.symm
    have n5' := n5.symm
    by_cases hk60 : k = 60
    · obtain ⟨hw, hv2⟩ : w = [] ∧ v pl = 2 := by
        cases hI.hw with
        | «at» h1 h2 h3 h4 => exact ⟨h1, h2⟩
        | way f t h1 ht h3 h4 h5 h6 => dsimp only at h6; omega
      subst hk60 hw
      have f27 := F.f27 pl (v pl) (by omega)
      rw [hv2] at f27
      have hset := R_getE v (k := 4) (n := pl)
      rw [hv2] at hset
      simp only [stc] at f27 hset
      have hu : (us : Int) ≤ ps + 2 := by omega
      have hwr : IntKind.i64.wrap ((ps : Int) + 2) = ps + 2 := w64 (by omega) (by omega)
      repeat (first | refine NV.seq ?_ | refine NV.blk ?_ | refine V.seq rfl ?_ | refine V.block rfl ?_ | refine V.skip rfl ?_ | refine V.ret rfl ?_ | refine NV.nil ?_ | refine NV.loop ?_ | refine V.exit rfl ?_ | refine XV.seq ?_ | refine XV.loop ?_ | refine XV.hit ?_ | refine XV.pass (by decide) ?_ | refine V.condT rfl (by rfl) ?_ | refine V.condF rfl (by rfl) ?_ | refine V.region tm F.ok rfl (by conv => lhs; simp [b1, b2, b3, hpl, qk, stB, wyB, hset, f27, hu, hwr]) fun _ => ?_ | refine V.regionD tm F.ok rfl (by conv => lhs; simp [b1, b2, b3, hpl, qk, stB, wyB, hset, f27, hu, hwr]) (by conv => lhs; simp) (by rcases hid with e | e | e <;> subst e <;> kernel_rfl) fun _ => ?_)
      refine retM2_ok false [] [] ?_
      simp [retM2, movedOK, oldOK, frqT, frqV, frqVs, frqL, frq1, expG, expB3, renB, AV.ren, renL, List.range, List.range.loop, resVs, resV, pack, List.zipWith, List.idxOf?, List.findIdx?, List.findIdx?.go]
    · have hk2 : (k : Int) < 60 := by omega
      repeat (first | refine NV.seq ?_ | refine NV.blk ?_ | refine V.seq rfl ?_ | refine V.block rfl ?_ | refine V.skip rfl ?_ | refine V.ret rfl ?_ | refine NV.nil ?_ | refine NV.loop ?_ | refine V.exit rfl ?_ | refine XV.seq ?_ | refine XV.loop ?_ | refine XV.hit ?_ | refine XV.pass (by decide) ?_)
      repeat (first | refine NV.seq ?_ | refine NV.blk ?_ | refine V.seqR rfl rfl ?_ | refine V.skip rfl ?_ | refine V.ret rfl ?_ | refine NV.nil ?_ | refine NV.loop ?_ | refine V.exit rfl ?_ | refine XV.seq ?_ | refine XV.loop ?_ | refine XV.hit ?_ | refine XV.pass (by decide) ?_ | refine V.region tm F.ok rfl (by conv => lhs; simp [hk2]) fun _ => ?_ | refine V.regionD tm F.ok rfl (by conv => lhs; simp [hk2]) (by conv => lhs; simp) (by rcases hid with e | e | e <;> subst e <;> kernel_rfl) fun _ => ?_)
      refine V.condT rfl (by rfl) ?_
      refine V.skip rfl ?_
      refine NV.seq ?_
      refine V.seq rfl ?_
      refine V.block rfl ?_
      refine V.cut rfl (fun σ' => ∃ q : HS, q.k = k ∧ HI L 1 0 q ∧ AS.le (HJ q) σ') ?_ ?_
      · exact ph1 S F L hL _ k pl ps us v w id g pre dk h hI hk60
      · rintro σ1 ⟨q1, hq1, hI1, hle1⟩
        refine V.weak hle1 ?_
        refine V.cut rfl (fun σ' => ∃ q : HS, q.k = k ∧ HI L 1 1 q ∧ AS.le (HJ q) σ') ?_ ?_
        · obtain ⟨k1, pl, ps, us, v, w, id, g, pre, dk, h⟩ := q1
          dsimp only at hq1
          subst hq1
          exact ph2 S F L hL _ k1 pl ps us v w id g pre dk h hI1
        · rintro σ2 ⟨⟨k1, pl, ps, us, v, w, id, g, pre, dk, h⟩, hq2, hI2, hle2⟩
          refine V.weak hle2 ?_
          dsimp only at hq2
          subst hq2
          exact ph3 S F L hL _ k1 pl ps us v w id g pre dk h hI2
  · have hlt : k < 4 := by omega
    have q : (k : Int) < 4 := by omega
    have f22 := F.f22 k hlt
    have hw : IntKind.i64.wrap ((k : Int) + 1) = k + 1 := w64 (by omega) (by omega)
    have hsucc := R_succ (fun _ => 0) k
    have c1 : (k + 1) * 184 ≤ 140737488355328 := by omega
    have c2 : k ≤ 9223372036854775806 := by omega
    simp only [stc] at f22 hsucc
    have hR : firstRows k (R (fun _ => 0) k) = R (fun _ => 0) k := by rw [firstRows_eq]; exact List.take_of_length_le (by simp [R_len])
    repeat (first | refine NV.seq ?_ | refine NV.blk ?_ | refine V.seq rfl ?_ | refine V.block rfl ?_ | refine V.skip rfl ?_ | refine V.ret rfl ?_ | refine NV.nil ?_ | refine NV.loop ?_ | refine V.exit rfl ?_ | refine XV.seq ?_ | refine XV.loop ?_ | refine XV.hit ?_ | refine XV.pass (by decide) ?_ | refine V.condT rfl (by rfl) ?_ | refine V.condF rfl (by rfl) ?_ | refine V.region tm F.ok rfl (by conv => lhs; simp [q, h1, h2, h3, f22, stB, hw, maxLen, hR, c1, c2]) fun _ => ?_ | refine V.regionD tm F.ok rfl (by conv => lhs; simp [q, h1, h2, h3, f22, stB, hw, maxLen, hR, c1, c2]) (by conv => lhs; simp) (by kernel_rfl) fun _ => ?_)
    refine ⟨⟨(k + 1, _), by dsimp only; omega, ?_, ?_, ?_⟩, by dsimp only; omega, AS.le_of rfl ⟨by simp, rfl, rfl, rfl, rfl, trivial⟩ (fun _ => rfl)⟩
    · dsimp only
      simp [lk_st, stB, hsucc]
    · simp [lk_st, h2]
    · simp [lk_st, h3]
theorem arr_ok : FnC Try.prog 5 arrS := by
  refine FnC.ofV 5 (fn := Try.f5) Try.func5 rfl (by kernel_rfl) fun args B r B' hS => ?_
  unfold arrS mkS at hS
  split at hS
  · rename_i hc
    obtain ⟨rfl, ⟨L, hL⟩, rfl⟩ := hc
    simp only [Option.some.injEq, Prod.mk.injEq] at hS
    obtain ⟨rfl, rfl⟩ := hS
    exact ⟨by simp, arr_ok' ph haF L hL⟩
  · cases hS
end Go.Abs.Fi
