/- Directories that are made: the walk. Conditions: none. -/
import Derived.Test.YtlakgienobmpbaaGreatNz8
import Derived.Test.YtlakgienobmpbaaGreatAb8
namespace Go.Abs.Nz
open Go Go.Proofs Go.Abs
set_option maxRecDepth 100000
set_option maxHeartbeats 4000000
set_option linter.unusedSimpArgs false
set_option linter.unusedVariables false
attribute [local simp] instA slice3A slice3C
attribute [-simp] mkv
attribute [local simp] mkv_hd hdA_cons hdA_ob hdA_ob'
def MrP (ds : List UInt8) (r : AV × List ABlk) : Prop := ∃ (n : Int) (l : List En) (ds' : List UInt8), Gd 16 n l ∧ r = (.agg [.int .i64 n, .list 41 (l.map enC)], [diceB ds'])
noncomputable def mr22_specs : NL Spec := [(10, ⟨3, diceS⟩), (29, ⟨3, idS⟩), (31, ⟨1, askS⟩), (36, ⟨1, rfnS⟩), (38, ⟨1, retS⟩)]
theorem mr22_specs_ok : ∀ p ∈ mr22_specs, FnC Tryz.prog p.1 p.2.fn := by
  simp only [mr22_specs, List.mem_cons, List.not_mem_nil, or_false]
  rintro p (rfl | rfl | rfl | rfl | rfl)
  · exact dice_ok
  · exact id_ok
  · exact rask_ok
  · exact rfn_ok
  · exact rret_ok
attribute [local simp] mr22_specs
theorem encD1_inj : ∀ x y : List UInt8, encD1 x = encD1 y → x = y := fun x y h => by
  simp only [encD1, Prod.mk.injEq, List.cons.injEq, true_and, and_true] at h
  exact diceB_inj h
def drN (g : Nat) (n : Int) (l : List En) : ABlk := { gen := g, kind := 2, elem := 71, size := 2, inl := false, rows := [[.int .i64 n, .list 41 (l.map enC)]] }
theorem drs_nrm0 (nd : Int) : nrmL Tryz.prog (leafs Tryz.prog 71) [.int .i64 nd, .nils] = [.int .i64 nd, .list 41 []] := by simp only [drLeafs, nrmL, nrmV, uE, cE]
theorem mr_ex : ∃ S, FnC Tryz.prog 28 S ∧ ∀ ds, ∃ r, S (encD1 ds).1 (encD1 ds).2 = some r ∧ MrP ds r := by
  refine FnC.existsB 28 (fn := Tryz.f28) Tryz.func28 rfl (by kernel_rfl) (fun x b hb => by simp [encD1] at hb; rw [hb]; rfl) encD1_inj (fun ds => ⟨_, 0, [], ds, (Gd.nil rfl).mono (by omega), rfl⟩) fun ds => ?_
  change W _ _ _ _ ⟨81, [(0, .ptr 0 0 0 0)], [(0, diceB ds)]⟩
  have c1 := diceS_eq ds 3
  have c2 := diceS_eq (dl ds 3) 14
  have b2 := dn_lt (dl ds 3) (n := 14) (by omega)
  have b1 := dn_nonneg (dl ds 3) 14
  have b3 := dn_lt ds (n := 3) (by omega)
  have b4 := dn_nonneg ds 3
  generalize dl ds 3 = e1 at *
  generalize dl e1 14 = e2 at *
  generalize dn ds 3 = nd at *
  obtain ⟨kk, hkk⟩ : ∃ k : Nat, dn e1 14 = k := ⟨_, (Int.toNat_of_nonneg b1).symm⟩
  rw [hkk] at c2 b2
  simp only [diceB] at c1 c2 ⊢
  repeat' (first | refine ZV ?_ | refine ZB tm mr22_specs_ok ?_ | refine ZH (fun hb => ?_) (fun hb => ?_) | refine ZJ (by conv => lhs; simp [c1, c2]) ?_ | refine ZA (fun hb => ?_) (fun hb => ?_))
  refine W.nrmB 64 (leafs Tryz.prog 71) rfl rfl ?_
  rw [show ([[AV.int .i64 nd, .nils]] : List (List AV)).map (nrmL Tryz.prog (leafs Tryz.prog 71)) = [[.int .i64 nd, .list 41 (([] : List En).map enC)]] by
    rw [List.map_cons, List.map_nil, drs_nrm0 nd]; rfl]
  refine W.loop rfl (ι := { q : Nat × NL ABlk × Int × List En × List UInt8 × Nat // q.1 ≤ 16 ∧ Gd (16 - q.1) q.2.2.1 q.2.2.2.1 ∧ lk q.2.1 0 = some (diceB q.2.2.2.2.1) ∧ lk q.2.1 48 = some { gen := 1, kind := 2, elem := 71, size := 2, inl := false, rows := [[.int .i64 0, .nils]] } ∧ lk q.2.1 64 = some (drN q.2.2.2.2.2 q.2.2.1 q.2.2.2.1) })
    (fun q => ⟨81, [(0, .ptr 0 0 0 0), (2, .ptr 48 1 0 0), (3, .ptr 64 q.1.2.2.2.2.2 0 0), (4, .int .i64 (q.1.1 : Nat))], q.1.2.1⟩) (fun q => q.1.1)
    ⟨(kk, _, nd, [], e2, 1), by dsimp only; omega, (Gd.nil (nd := nd) (okN_iff.2 (by omega))).mono (by omega), rfl, rfl, rfl⟩ (AS.le_of rfl ⟨rfl, rfl, rfl, rfl, trivial⟩ (fun _ => rfl)) ?_
  clear c1 c2 hkk b1 b2 b3 b4
  rintro ⟨⟨k, h, n, l, ds, g⟩, hk, hG, h0, h1, h2⟩
  dsimp only at hk hG h0 h1 h2 ⊢
  by_cases hk0 : k = 0
  · subst hk0
    simp only [diceB, drN] at h0 h2
    repeat' (first | refine ZV ?_ | refine ZB tm mr22_specs_ok ?_ | refine ZH (fun hb => ?_) (fun hb => ?_) | refine ZJ (by conv => lhs; simp [h0, h1, h2]) ?_ | refine ZA (fun hb => ?_) (fun hb => ?_))
    refine ⟨(.agg [.int .i64 n, .list 41 (l.map enC)], [diceB ds]), ⟨n, l, ds, hG, rfl⟩, ?_⟩
    refine RetB.mk true [0] rfl (by conv => lhs; simp) (by conv => lhs; simp [frqT, frqV, frqVs, frqL, frq1, h2]) (by decide) (by rintro j hj; have hj : j < 1 := hj; rcases (show j = 0 by omega) with rfl; exact ⟨rfl, by simp [lk_st, h0]⟩) (by simp [lk_st, h0, diceB]) (by simp)
  · have q1 : (0 : Int) < (k : Int) := by omega
    have hw : IntKind.i64.wrap ((k : Int) - 1) = ((k - 1 : Nat) : Int) := by rw [w64 (by omega) (by omega)]; omega
    have q0 : 0 < k := by omega
    have hGd := hG
    have cid := idS_eq ds
    have cn := diceS_eq (d3 ds) 4
    have n0 := dn_nonneg (d3 ds) 4
    have n4 := dn_lt (d3 ds) (n := 4) (by omega)
    have wi := idV_wf ds
    have wk : (Lit.int .i64 (k : Int)).wf = true := by
      simp only [Lit.wf, IntKind.min, IntKind.max, IntKind.signed, IntKind.bits]
      simp
      omega
    generalize idV ds = id at *
    generalize dn (d3 ds) 4 = m at *
    have cr := diceS_eq (dl (d3 ds) 4) 2
    generalize dl (dl (d3 ds) 4) 2 = f at *
    generalize hr : dn (dl (d3 ds) 4) 2 = r at *
    generalize d3 ds = e at *
    generalize dl e 4 = e4 at *
    simp only [diceB, drN] at h0 h2 cid cn cr
    by_cases hr0 : r = 0
    · subst hr0
      have cA := diceS_eq f 2
      have a0 := dn_nonneg f 2
      have a1 := dn_lt f (n := 2) (by omega)
      have cW := askS_eq (hG.drs (by omega)) id m (1 + dn f 2)
      have hE := ask_gd (d := hG.drs (by omega)) hG (id := id) (n := m) (m := 1 + dn f 2)
      have hw1 : IntKind.i64.wrap (1 + dn f 2) = 1 + dn f 2 := w64 (by omega) (by omega)
      generalize askL (hG.drs (by omega)) id m (1 + dn f 2) = R at *
      generalize dn f 2 = a at *
      generalize dl f 2 = z at *
      obtain ⟨n', l', ms', e'⟩ := R
      simp only [Gd.drs, Drs.v, rD, diceB] at cA cW hE
      repeat' (first | refine ZV ?_ | refine ZB tm mr22_specs_ok ?_ | refine ZH (fun hb => ?_) (fun hb => ?_) | refine ZJ (by conv => lhs; simp [q1, q0, h0, h1, h2, cid, cn, cr, cA, cW, hw1, hw]) ?_ | refine ZA (fun hb => ?_) (fun hb => ?_))
      · exact ⟨⟨(k - 1, _, n', l', z, g), by dsimp only; omega, (hE (by simpa using hb)).1.mono (by dsimp only; omega), by simp [lk_st, diceB], by simp [lk_st, h1], by simp [lk_st, drN]⟩, by dsimp only; omega, AS.le_of rfl ⟨rfl, rfl, rfl, rfl, trivial⟩ (fun _ => rfl)⟩
      · exact ⟨⟨(k - 1, _, n, l, z, g), by dsimp only; omega, hGd.mono (by dsimp only; omega), by simp [lk_st, diceB], by simp [lk_st, h1], by simp [lk_st, drN, h2]⟩, by dsimp only; omega, AS.le_of rfl ⟨rfl, rfl, rfl, rfl, trivial⟩ (fun _ => rfl)⟩
    · have hrr : (r == 0) = false := by simp [hr0]
      have cE := rfnS_eq (hG.drs (by omega)) id
      have o2 : (fndD id l).waiting.length ≤ 128 := (fndD_ok (hG.okE (by omega)) hG.v id).2.2.2
      simp only [Gd.drs, Drs.v] at cE
      generalize fndD id l = E at *
      obtain ⟨e1, e2, e3, eo, wt, e6⟩ := E
      dsimp only at o2
      simp only [enC] at cE
      clear hr hr0
      have cap : wt.length ≤ 9223372036854775807 := by omega
      by_cases hwt : wt = []
      · have w1 : ¬ (0 : Int) < wt.length := by simp [hwt]
        have w2 : wt.length = 0 := by simp [hwt]
        repeat' (first | refine ZV ?_ | refine ZB (id := 3) tm mr22_specs_ok ?_ | refine ZB (id := 4) tm mr22_specs_ok ?_ | refine ZB (id := 5) tm mr22_specs_ok ?_ | refine ZB (id := 6) tm mr22_specs_ok ?_ | refine ZB (id := 7) tm mr22_specs_ok ?_ | refine ZB (id := 8) tm mr22_specs_ok ?_ | refine ZB (id := 9) tm mr22_specs_ok ?_ | refine ZB (id := 10) tm mr22_specs_ok ?_ | refine ZB (id := 11) tm mr22_specs_ok ?_ | refine ZB (id := 12) tm mr22_specs_ok ?_ | refine ZH (fun hb => ?_) (fun hb => ?_) | refine ZJ (by conv => lhs; simp [q1, q0, h0, h1, h2, cid, cn, cr, cE, cap, hrr, w1, w2]) ?_ | refine ZA (fun hb => ?_) (fun hb => ?_))
        have c4 := diceS_eq f 4
        generalize dl f 4 = f4 at *
        simp only [diceB] at c4
        by_cases hd4 : dn f 4 = 0
        · rw [hd4] at c4
          have cW := retS_eq (hG.drs (by omega)) id m zOb
          have hE := ret_gd (d := hG.drs (by omega)) hG (id := id) (n := m) (o := zOb)
          generalize retL (hG.drs (by omega)) id m zOb = R at *
          obtain ⟨n', l', ms', e'⟩ := R
          simp only [Gd.drs, Drs.v, rD] at cW hE
          repeat' (first | refine ZV ?_ | refine ZB (id := 13) tm mr22_specs_ok ?_ | refine ZB (id := 14) tm mr22_specs_ok ?_ | refine ZB (id := 15) tm mr22_specs_ok ?_ | refine ZH (fun hb => ?_) (fun hb => ?_) | refine ZJ (by conv => lhs; simp [h0, h1, h2, c4]) ?_ | refine ZA (fun hb => ?_) (fun hb => ?_))
          refine W.nrmB 192 (leafs Tryz.prog 44) (by simp [lk_st]; rfl) rfl ?_
          have hz := zN_eq
          simp only [zO] at hz
          simp only [List.map_cons, List.map_nil, hz]
          rw [show zN = zOb.cells from rfl]
          generalize zOb = ob at *
          repeat' (first | refine ZV ?_ | refine ZB tm mr22_specs_ok ?_ | refine ZH (fun hb => ?_) (fun hb => ?_) | refine ZJ (by conv => lhs; simp [h0, h1, h2, cW, hw]) ?_ | refine ZA (fun hb => ?_) (fun hb => ?_))
          · exact ⟨⟨(k - 1, _, n', l', f4, g), by dsimp only; omega, (hE (by simpa using hb)).1.mono (by dsimp only; omega), by simp [lk_st, diceB], by simp [lk_st, h1], by simp [lk_st, drN]⟩, by dsimp only; omega, AS.le_of rfl ⟨rfl, rfl, rfl, rfl, trivial⟩ (fun _ => rfl)⟩
          · exact ⟨⟨(k - 1, _, n, l, f4, g), by dsimp only; omega, hGd.mono (by dsimp only; omega), by simp [lk_st, diceB], by simp [lk_st, h1], by simp [lk_st, drN, h2]⟩, by dsimp only; omega, AS.le_of rfl ⟨rfl, rfl, rfl, rfl, trivial⟩ (fun _ => rfl)⟩
        · have hd5 : (dn f 4 == 0) = false := by simp [hd4]
          generalize dn f 4 = d4 at *
          obtain ⟨ob, hob⟩ : ∃ ob, dvO id k wi wk = ob := ⟨_, rfl⟩
          have cW := retS_eq (hG.drs (by omega)) id m ob
          have hE := ret_gd (d := hG.drs (by omega)) hG (id := id) (n := m) (o := ob)
          generalize retL (hG.drs (by omega)) id m ob = R at *
          obtain ⟨n', l', ms', e'⟩ := R
          simp only [Gd.drs, Drs.v, rD] at cW hE
          repeat' (first | refine ZV ?_ | refine ZB (id := 13) tm mr22_specs_ok ?_ | refine ZB (id := 14) tm mr22_specs_ok ?_ | refine ZH (fun hb => ?_) (fun hb => ?_) | refine ZJ (by conv => lhs; simp [h0, h1, h2, c4, hd5]) ?_ | refine ZA (fun hb => ?_) (fun hb => ?_))
          refine W.nrmB 192 (leafs Tryz.prog 44) (by simp [lk_st]; rfl) rfl ?_
          have hz := dv_nrm id k
          simp only [dvC] at hz
          simp only [List.map_cons, List.map_nil, hz]
          rw [show dvN id k = (dvO id k wi wk).cells from rfl, hob]
          clear hob hz wi wk
          repeat' (first | refine ZV ?_ | refine ZB tm mr22_specs_ok ?_ | refine ZH (fun hb => ?_) (fun hb => ?_) | refine ZJ (by conv => lhs; simp [h0, h1, h2, cW, hw]) ?_ | refine ZA (fun hb => ?_) (fun hb => ?_))
          · exact ⟨⟨(k - 1, _, n', l', f4, g), by dsimp only; omega, (hE (by simpa using hb)).1.mono (by dsimp only; omega), by simp [lk_st, diceB], by simp [lk_st, h1], by simp [lk_st, drN]⟩, by dsimp only; omega, AS.le_of rfl ⟨rfl, rfl, rfl, rfl, trivial⟩ (fun _ => rfl)⟩
          · exact ⟨⟨(k - 1, _, n, l, f4, g), by dsimp only; omega, hGd.mono (by dsimp only; omega), by simp [lk_st, diceB], by simp [lk_st, h1], by simp [lk_st, drN, h2]⟩, by dsimp only; omega, AS.le_of rfl ⟨rfl, rfl, rfl, rfl, trivial⟩ (fun _ => rfl)⟩
      · have w1 : (0 : Int) < wt.length := by have := List.length_pos_iff.2 hwt; omega
        have w2 : 0 < wt.length := by omega
        have w3 : ¬ wt.length = 0 := by omega
        have cT := diceS_eq f wt.length
        have t0 := dn_nonneg f wt.length
        have t1 := dn_lt f (n := wt.length) w1
        obtain ⟨j, hj⟩ : ∃ j : Nat, dn f wt.length = j := ⟨_, (Int.toNat_of_nonneg t0).symm⟩
        rw [hj] at cT t1
        generalize dl f wt.length = f2 at *
        obtain ⟨v, hv⟩ := get_lt (l := wt) (i := j) (by omega)
        have hm2 : (wt.map iC)[j]? = some [.int .i64 v] := by rw [List.getElem?_map, hv]; rfl
        have j2 : ¬ wt.length ≤ j := by omega
        simp only [diceB] at cT
        repeat' (first | refine ZV ?_ | refine ZB (id := 3) tm mr22_specs_ok ?_ | refine ZB (id := 4) tm mr22_specs_ok ?_ | refine ZB (id := 5) tm mr22_specs_ok ?_ | refine ZB (id := 6) tm mr22_specs_ok ?_ | refine ZB (id := 7) tm mr22_specs_ok ?_ | refine ZB (id := 8) tm mr22_specs_ok ?_ | refine ZB (id := 9) tm mr22_specs_ok ?_ | refine ZB (id := 10) tm mr22_specs_ok ?_ | refine ZB (id := 11) tm mr22_specs_ok ?_ | refine ZB (id := 12) tm mr22_specs_ok ?_ | refine ZH (fun hb => ?_) (fun hb => ?_) | refine ZJ (by conv => lhs; simp [q1, q0, h0, h1, h2, cid, cn, cr, cE, cap, hrr, w1, w2, w3, cT, t1, j2, hm2]) ?_ | refine ZA (fun hb => ?_) (fun hb => ?_))
        have c4 := diceS_eq f2 4
        generalize dl f2 4 = f4 at *
        simp only [diceB] at c4
        by_cases hd4 : dn f2 4 = 0
        · rw [hd4] at c4
          have cW := retS_eq (hG.drs (by omega)) id v zOb
          have hE := ret_gd (d := hG.drs (by omega)) hG (id := id) (n := v) (o := zOb)
          generalize retL (hG.drs (by omega)) id v zOb = R at *
          obtain ⟨n', l', ms', e'⟩ := R
          simp only [Gd.drs, Drs.v, rD] at cW hE
          repeat' (first | refine ZV ?_ | refine ZB (id := 13) tm mr22_specs_ok ?_ | refine ZB (id := 14) tm mr22_specs_ok ?_ | refine ZB (id := 15) tm mr22_specs_ok ?_ | refine ZH (fun hb => ?_) (fun hb => ?_) | refine ZJ (by conv => lhs; simp [h0, h1, h2, c4]) ?_ | refine ZA (fun hb => ?_) (fun hb => ?_))
          refine W.nrmB 192 (leafs Tryz.prog 44) (by simp [lk_st]; rfl) rfl ?_
          have hz := zN_eq
          simp only [zO] at hz
          simp only [List.map_cons, List.map_nil, hz]
          rw [show zN = zOb.cells from rfl]
          generalize zOb = ob at *
          repeat' (first | refine ZV ?_ | refine ZB tm mr22_specs_ok ?_ | refine ZH (fun hb => ?_) (fun hb => ?_) | refine ZJ (by conv => lhs; simp [h0, h1, h2, cW, hw]) ?_ | refine ZA (fun hb => ?_) (fun hb => ?_))
          · exact ⟨⟨(k - 1, _, n', l', f4, g), by dsimp only; omega, (hE (by simpa using hb)).1.mono (by dsimp only; omega), by simp [lk_st, diceB], by simp [lk_st, h1], by simp [lk_st, drN]⟩, by dsimp only; omega, AS.le_of rfl ⟨rfl, rfl, rfl, rfl, trivial⟩ (fun _ => rfl)⟩
          · exact ⟨⟨(k - 1, _, n, l, f4, g), by dsimp only; omega, hGd.mono (by dsimp only; omega), by simp [lk_st, diceB], by simp [lk_st, h1], by simp [lk_st, drN, h2]⟩, by dsimp only; omega, AS.le_of rfl ⟨rfl, rfl, rfl, rfl, trivial⟩ (fun _ => rfl)⟩
        · have hd5 : (dn f2 4 == 0) = false := by simp [hd4]
          generalize dn f2 4 = d4 at *
          obtain ⟨ob, hob⟩ : ∃ ob, dvO id k wi wk = ob := ⟨_, rfl⟩
          have cW := retS_eq (hG.drs (by omega)) id v ob
          have hE := ret_gd (d := hG.drs (by omega)) hG (id := id) (n := v) (o := ob)
          generalize retL (hG.drs (by omega)) id v ob = R at *
          obtain ⟨n', l', ms', e'⟩ := R
          simp only [Gd.drs, Drs.v, rD] at cW hE
          repeat' (first | refine ZV ?_ | refine ZB (id := 13) tm mr22_specs_ok ?_ | refine ZB (id := 14) tm mr22_specs_ok ?_ | refine ZH (fun hb => ?_) (fun hb => ?_) | refine ZJ (by conv => lhs; simp [h0, h1, h2, c4, hd5]) ?_ | refine ZA (fun hb => ?_) (fun hb => ?_))
          refine W.nrmB 192 (leafs Tryz.prog 44) (by simp [lk_st]; rfl) rfl ?_
          have hz := dv_nrm id k
          simp only [dvC] at hz
          simp only [List.map_cons, List.map_nil, hz]
          rw [show dvN id k = (dvO id k wi wk).cells from rfl, hob]
          clear hob hz wi wk
          repeat' (first | refine ZV ?_ | refine ZB tm mr22_specs_ok ?_ | refine ZH (fun hb => ?_) (fun hb => ?_) | refine ZJ (by conv => lhs; simp [h0, h1, h2, cW, hw]) ?_ | refine ZA (fun hb => ?_) (fun hb => ?_))
          · exact ⟨⟨(k - 1, _, n', l', f4, g), by dsimp only; omega, (hE (by simpa using hb)).1.mono (by dsimp only; omega), by simp [lk_st, diceB], by simp [lk_st, h1], by simp [lk_st, drN]⟩, by dsimp only; omega, AS.le_of rfl ⟨rfl, rfl, rfl, rfl, trivial⟩ (fun _ => rfl)⟩
          · exact ⟨⟨(k - 1, _, n, l, f4, g), by dsimp only; omega, hGd.mono (by dsimp only; omega), by simp [lk_st, diceB], by simp [lk_st, h1], by simp [lk_st, drN, h2]⟩, by dsimp only; omega, AS.le_of rfl ⟨rfl, rfl, rfl, rfl, trivial⟩ (fun _ => rfl)⟩
end Go.Abs.Nz
namespace Go.Abs.Nz
open Go Go.Proofs Go.Abs
set_option maxRecDepth 100000
set_option maxHeartbeats 4000000
set_option linter.unusedSimpArgs false
set_option linter.unusedVariables false
attribute [local simp] instA slice3A slice3C
attribute [-simp] mkv
attribute [local simp] mkv_hd hdA_cons hdA_ob hdA_ob' listR_ob
end Go.Abs.Nz
namespace Go.Abs.Nz
open Go Go.Proofs Go.Abs
set_option maxRecDepth 100000
set_option maxHeartbeats 4000000
set_option linter.unusedSimpArgs false
set_option linter.unusedVariables false
end Go.Abs.Nz
namespace Go.Abs.Nz
open Go Go.Proofs Go.Abs
set_option maxRecDepth 100000
set_option maxHeartbeats 4000000
set_option linter.unusedSimpArgs false
set_option linter.unusedVariables false
attribute [local simp] instA
attribute [-simp] mkv
attribute [local simp] mkv_hd hdA_cons hdA_ob hdA_ob'
def Smo (b : Nat) (e : En) : Prop := e.readers.length ≤ b ∧ e.waiting.length ≤ b ∧ e.queue.length ≤ b
theorem ints_of : ∀ {rows : List (List AV)}, (∀ r ∈ rows, TyR Tryz.prog 8 3 r) → ∃ l : List Int, rows = l.map iC
  | [], _ => ⟨[], rfl⟩
  | r :: rs, h => by
    obtain ⟨l, rfl⟩ := ints_of (rows := rs) fun r hr => h r (by simp [hr])
    have := h r (by simp)
    rw [TyR_int Tryz.underlying3] at this
    obtain ⟨n, rfl, _⟩ := this
    exact ⟨n :: l, rfl⟩
theorem asks_of : ∀ {rows : List (List AV)}, (∀ r ∈ rows, TyR Tryz.prog 8 119 r) → ∃ l : List (Int × Int), rows = l.map askC
  | [], _ => ⟨[], rfl⟩
  | r :: rs, h => by
    obtain ⟨l, rfl⟩ := asks_of (rows := rs) fun r hr => h r (by simp [hr])
    obtain ⟨a, m, rfl, _⟩ := viewAsk (h r (by simp))
    exact ⟨(a, m) :: l, rfl⟩
theorem viewDir {xs : List AV} (h : TyR Tryz.prog 9 71 xs) : ∃ (x0 : Int) (x1 : List (List AV)), xs = [.int .i64 x0, .list 41 x1] ∧ (∀ r ∈ x1, TyR Tryz.prog 8 85 r) := by
  simp only [TyFs, TyR_int Tryz.underlying3, TyR_slice Tryz.underlying69, TyR_struct Tryz.underlying71, cE, List.map_cons, List.map_nil, List.replicate] at h
  obtain ⟨_, _, rfl, ⟨x0, rfl, w0⟩, ⟨_, _, rfl, ⟨x1, rfl, _, w1⟩, rfl⟩⟩ := h
  refine ⟨x0, x1, ?_, (fun r hr => TyR.monoN (by omega) (w1 r hr))⟩
  simp only [List.cons_append, List.nil_append, List.append_nil, List.append_assoc]
theorem ens_of : ∀ {rows : List (List AV)}, (∀ r ∈ rows, ∃ t : En, r = enC t ∧ Smo 20 t) → ∃ l : List En, rows = l.map enC ∧ ∀ e ∈ l, Smo 20 e
  | [], _ => ⟨[], rfl, by simp⟩
  | r :: rs, h => by
    obtain ⟨t, rfl, ht⟩ := h r (by simp)
    obtain ⟨l, rfl, hl⟩ := ens_of (rows := rs) fun r hr => h r (by simp [hr])
    exact ⟨t :: l, rfl, fun e he => by
      rcases List.mem_cons.1 he with rfl | he
      · exact ht
      · exact hl e he⟩
def KpD (x : Raw9 71) (r : AV × List ABlk) : Prop := ∃ b, r = (.bool b, []) ∧ (b = true → ∃ (n : Int) (l : List En), x.1 = [.int .i64 n, .list 41 (l.map enC)] ∧ l.length ≤ 12 ∧ ∀ e ∈ l, Smo 20 e)
theorem kpD_ne (x : Raw9 71) : ∃ r, KpD x r := ⟨(.bool false, []), false, rfl, by simp⟩
theorem kpD_ex : ∃ S, FnC Tryz.prog 26 S ∧ ∀ x : Raw9 71, ∃ r, S (encR9 _ x) [] = some r ∧ KpD x r := by
  obtain ⟨SO, hSO, hSOe⟩ := kpO_ex
  have specs_ok : ∀ p ∈ ([(8, ⟨1, SO⟩)] : NL Spec), FnC Tryz.prog p.1 p.2.fn := by
    simp only [List.mem_cons, List.not_mem_nil, or_false]
    rintro p rfl
    exact hSO
  refine FnC.existsA 26 (fn := Tryz.f26) Tryz.func26 rfl (by kernel_rfl) (encR9_inj _) kpD_ne fun x => ?_
  obtain ⟨xs, hx⟩ := x
  obtain ⟨n, rows, rfl, hrows⟩ := viewDir hx
  change W _ _ _ _ ⟨39, [(0, .agg [.int .i64 n, .list 41 rows])], []⟩
  try refine ZT ?_
  refine ZK tm specs_ok rfl (by conv => lhs; simp) fun _ => ?_
  try refine ZT ?_
  refine ZK tm specs_ok rfl (by conv => lhs; simp) fun hA => ?_
  have cap : rows.length ≤ 9223372036854775807 := by simpa [maxLen] using hA
  try refine ZT ?_
  refine W.loop rfl (ι := { q : Nat × NL ABlk // q.1 ≤ rows.length ∧ (∀ r ∈ rows.take q.1, ∃ t : En, r = enC t ∧ Smo 20 t) ∧ lk q.2 32 = some { gen := 1, kind := 2, elem := 71, size := 2, inl := false, rows := [[.int .i64 n, .list 41 rows]] } })
    (fun q => ⟨39, [(1, .ptr 32 1 0 0), (6, .list 41 rows), (7, .int .i64 rows.length), (8, .int .i64 (q.1.1 : Nat))], q.1.2⟩) (fun q => rows.length - q.1.1)
    ⟨(0, _), by simp, by simp, rfl⟩ (AS.le_of rfl ⟨rfl, rfl, rfl, rfl, trivial⟩ (fun _ => rfl)) ?_
  rintro ⟨⟨k, h⟩, hk, hbd, h2⟩
  dsimp only at hk hbd h2 ⊢
  by_cases hk2 : k = rows.length
  · subst hk2
    rw [List.take_length] at hbd
    repeat' (first | refine ZV ?_ | refine ZB tm specs_ok ?_ | refine ZH (fun hb => ?_) (fun hb => ?_) | refine ZJ (by conv => lhs; simp [h2]) ?_ | refine ZA (fun hb => ?_) (fun hb => ?_))
    refine ⟨(.bool _, []), ⟨_, rfl, ?_⟩, Ret.dataR rfl (by conv => lhs; simp) (by conv => lhs; simp) rfl⟩
    intro hc
    obtain ⟨l, rfl, hl⟩ := ens_of hbd
    refine ⟨n, l, rfl, ?_, hl⟩
    have := of_decide_eq_true hc
    simp only [List.length_map] at this
    omega
  · have hlt : k < rows.length := by omega
    obtain ⟨row, hr⟩ := get_lt hlt
    obtain ⟨t0, t1, tr, xo, tw, tq, rfl, -, -, htr, hxo, htw, htq⟩ := viewEntry (hrows row (List.mem_of_getElem? hr))
    obtain ⟨rd, rfl⟩ := ints_of htr
    obtain ⟨wt, rfl⟩ := ints_of htw
    obtain ⟨qu, rfl⟩ := asks_of htq
    obtain ⟨r, cO, bO, rfl, hbO⟩ := hSOe ⟨xo, hxo⟩
    simp only [encR] at cO
    dsimp only at hbO
    have r3 := raw_len hxo
    have r0 := raw_all hxo
    have hc : xo.all AV.cellish = true := by rw [List.all_eq_true] at r0 ⊢; intro x hx; exact (dat_split (r0 x hx)).1
    have hi : xo.all AV.isInl = true := by rw [List.all_eq_true] at r0 ⊢; intro x hx; exact (dat_split (r0 x hx)).2
    have r4 : ∀ (l : List AV) (n : Nat), 36 ≤ n → (xo ++ l).take n = xo ++ l.take (n - 36) := fun l n h => by rw [List.take_append, r3, List.take_of_length_le (by omega)]
    have r5 : ∀ (l : List AV) (n : Nat), 36 ≤ n → (xo ++ l).drop n = l.drop (n - 36) := fun l n h => by rw [List.drop_append, r3, List.drop_eq_nil_of_le (by omega), List.nil_append]
    have r6 : ∀ b : Bool, xo.all (fun x => x.cellish && (!b || x.isInl)) = true := fun b => by
      rw [List.all_eq_true] at hc hi ⊢
      intro x hx
      simp [hc x hx, hi x hx]
    have q1 : (k : Int) < rows.length := by omega
    have q2 : ¬ rows.length ≤ k := by omega
    have hw : IntKind.i64.wrap ((k : Int) + 1) = ((k + 1 : Nat) : Int) := w64 (by omega) (by omega)
    have ht : rows.take (k + 1) = rows.take k ++ [.int .u64 t0 :: .int .i64 t1 :: .list 1 (rd.map iC) :: (xo ++ [.list 1 (wt.map iC), .list 2 (qu.map askC)])] := by rw [List.take_add_one, hr]; rfl
    clear hlt hk2
    repeat' (first | refine ZV ?_ | refine ZB tm specs_ok ?_ | refine ZH (fun hb => ?_) (fun hb => ?_) | refine ZJ (by conv => lhs; simp [q1, q2, hr, hw, h2, cO, r3, r4, r5, hc, hi, r6]) ?_ | refine ZA (fun hb => ?_) (fun hb => ?_))
    all_goals first
      | (refine ⟨(.bool false, []), ⟨false, rfl, fun hc => by cases hc⟩, Ret.dataR rfl (by conv => lhs; simp) (by conv => lhs; simp) rfl⟩; done)
      | skip
    have hO := hbO (by simpa using hb)
    have s1 : rd.length ≤ 20 := by
      have := of_decide_eq_false (by assumption : decide ((20 : Int) < rd.length) = false)
      omega
    have s2 : wt.length ≤ 20 := by
      have := of_decide_eq_false (by assumption : decide ((20 : Int) < wt.length) = false)
      omega
    have s3 : qu.length ≤ 20 := by
      have := of_decide_eq_false (by assumption : decide ((20 : Int) < qu.length) = false)
      omega
    refine ⟨⟨(k + 1, _), by dsimp only; omega, ?_, by simp [lk_st, h2]⟩, by dsimp only; omega, AS.le_of rfl ⟨rfl, rfl, rfl, rfl, trivial⟩ (fun _ => rfl)⟩
    dsimp only
    rw [ht]
    intro r hr
    rcases List.mem_append.1 hr with hr | hr
    · exact hbd r hr
    · rw [List.mem_singleton] at hr
      exact ⟨⟨t0, t1, rd, ⟨xo, hxo, hO⟩, wt, qu⟩, hr, s1, s2, s3⟩
end Go.Abs.Nz
namespace Go.Abs.Nz
open Go Go.Proofs Go.Abs
set_option maxRecDepth 100000
set_option maxHeartbeats 4000000
set_option linter.unusedSimpArgs false
set_option linter.unusedVariables false
theorem ins_len (n : Int) (l : List Int) : (Dir.ins n l).length = l.length + 1 := (ins_perm n l).length_eq
theorem oth_len (l : List Int) (n : Int) : (Dir.oth l n).length ≤ l.length := List.length_filter_le _ _
theorem goOn_sz (q : List (Int × Int)) : ∀ e : En, e.queue = q → (Dir.goOn zOb e).2.readers.length ≤ e.readers.length + q.length ∧ (Dir.goOn zOb e).2.waiting.length ≤ e.waiting.length + e.readers.length + q.length + 1 ∧ (Dir.goOn zOb e).1.length ≤ 2 * q.length + e.readers.length + 1 := by
  induction q with
  | nil =>
    intro e hq
    by_cases hw : e.waiting = []
    · rw [go_nil hq]; simp only [List.length_nil]; omega
    · rw [go_wait hw]; simp only [List.length_nil]; omega
  | cons p q ih =>
    intro e hq
    by_cases hw : e.waiting = []
    · obtain ⟨a, m⟩ := p
      have h1 := oth_len e.readers a
      by_cases ho : e.owner = -1
      · by_cases hm : m = 1
        · subst hm
          rw [go_read hw hq ho]
          have h2 := ins_len a (Dir.oth e.readers a)
          have h3 := ih { e with readers := Dir.ins a (Dir.oth e.readers a), queue := q } rfl
          dsimp only at h3 ⊢
          simp only [List.length_cons]
          omega
        · by_cases hd : Dir.oth e.readers a = []
          · rw [go_write hw hq ho hm hd]
            have h3 := ih { e with owner := a, readers := [], obj := zOb, queue := q } rfl
            dsimp only at h3 ⊢
            simp only [List.length_cons, List.length_nil] at h3 ⊢
            omega
          · rw [go_dem hw hq ho hm hd]
            dsimp only
            simp only [List.length_map, List.length_cons]
            omega
      · rw [go_own hw hq ho]
        dsimp only
        simp only [List.length_cons, List.length_nil]
        omega
    · rw [go_wait hw]
      simp only [List.length_nil]
      omega
structure Smd (l : List En) : Prop where
  len : l.length ≤ 100
  ent : ∀ e ∈ l, Smo 200 e
theorem Smo.mono {a b : Nat} {e : En} (h : Smo a e) (hab : a ≤ b) : Smo b e := ⟨Nat.le_trans h.1 hab, Nat.le_trans h.2.1 hab, Nat.le_trans h.2.2 hab⟩
theorem Smd.okE {l : List En} (h : Smd l) : ∀ e ∈ l, okE e := fun e he => by
  have := h.ent e he
  unfold Smo at this
  exact ⟨by omega, by omega, by omega⟩
def Smd.drs {l : List En} (h : Smd l) (n : Int) : Drs := ⟨n, l, by have := h.len; omega, h.okE⟩
theorem Smd.fnd {l : List En} (h : Smd l) (id : Int) : Smo 200 (fndD id l) := by
  unfold fndD
  cases hf : l.find? (fun e => e.id == id) with
  | none => exact ⟨Nat.zero_le _, Nat.zero_le _, Nat.zero_le _⟩
  | some e => exact h.ent e (List.mem_of_find?_eq_some hf)
theorem Gd.smd {j : Nat} {n : Int} {l : List En} (h : Gd j n l) (hj : j ≤ 100) : Smd l := ⟨Nat.le_trans h.len hj, fun e he => by
  obtain ⟨a1, a2⟩ := fineB_asc (validD_fine h.v e he)
  have h1 := asc_len a1
  have h2 := asc_len a2
  have h3 := h.qu e he
  exact ⟨by omega, by omega, by omega⟩⟩
def Eqs (r : Int × List En × List Msg × Int) : Prop := sdrS [.agg [.int .i64 r.1, .list 41 (r.2.1.map enC)], .agg [.int .i64 r.1, .list 41 (r.2.1.map enC)]] [] = some (.bool true, []) ∧ dmS [.list 45 (r.2.2.1.map Msg.v), .list 45 (r.2.2.1.map Msg.v)] [] = some (.bool true, [])
theorem eqs_nil (e : Int) : Eqs (0, [], [], e) := ⟨sdrS_eq ⟨0, [], by simp, by simp⟩, dmS_eq [] (by simp)⟩
theorem eqs_put {n : Int} {l : List En} {x : En} (hv : validD n l = true) (h : Smd l) (hx : x.readers.length ≤ 200 ∧ x.waiting.length ≤ 200 ∧ x.queue.length ≤ 201) (e : Int) : Eqs (n, putD (Dir.goOn zOb x).2 l, goM x n, e) := by
  have h1 := goOn_sz _ x rfl
  have h2 := goOn_q _ x rfl
  refine ⟨sdrS_eq ⟨n, putD (Dir.goOn zOb x).2 l, ?_, fun y hy => ?_⟩, dmS_eq _ ?_⟩
  · have := putD_len (x := (Dir.goOn zOb x).2) (validD_ascE hv)
    have := h.len
    omega
  · rcases mem_put (validD_ascE hv) hy with rfl | hy
    · exact ⟨by omega, by omega, by omega⟩
    · exact h.okE y hy
  · rw [goM, List.length_map]
    omega
theorem ask_eqs {n : Int} {l : List En} (h : Smd l) (id w m : Int) : Eqs (askL (h.drs n) id w m) := by
  unfold askL
  split
  · exact eqs_nil _
  · rename_i hv
    split
    · exact eqs_nil _
    · dsimp only
      split
      · exact eqs_nil _
      · have := h.fnd id
        unfold Smo at this
        have hv : validD n l = true := by simpa [Smd.drs] using hv
        exact eqs_put (x := { fndD id l with queue := (fndD id l).queue ++ [(w, m)] }) hv h ⟨this.1, this.2.1, by dsimp only; rw [List.length_append, List.length_singleton]; omega⟩ 0
theorem ret_eqs {n : Int} {l : List En} (h : Smd l) (id w : Int) (o : Ob) : Eqs (retL (h.drs n) id w o) := by
  unfold retL
  split
  · exact eqs_nil _
  · rename_i hv
    dsimp only
    split
    · exact eqs_nil _
    · split
      · exact eqs_nil _
      · have := h.fnd id
        unfold Smo at this
        have hv : validD n l = true := by simpa [Smd.drs] using hv
        refine eqs_put hv h ?_ 0
        have h1 := oth_len (fndD id l).readers w
        have h2 := oth_len (fndD id l).waiting w
        show (retD (fndD id l) w o).readers.length ≤ 200 ∧ (retD (fndD id l) w o).waiting.length ≤ 200 ∧ (retD (fndD id l) w o).queue.length ≤ 201
        unfold retD
        by_cases ho : (fndD id l).owner = w
        · rw [if_pos ho]
          dsimp only
          omega
        · rw [if_neg ho]
          dsimp only
          omega
end Go.Abs.Nz
namespace Go.Abs.Nz
open Go Go.Proofs Go.Abs
set_option maxRecDepth 100000
set_option maxHeartbeats 4000000
set_option linter.unusedSimpArgs false
set_option linter.unusedVariables false
attribute [local simp] instA slice3A slice3C
attribute [-simp] mkv
attribute [local simp] mkv_hd hdA_cons hdA_ob hdA_ob' listR_ob
def drR (p : Int × List En) : List AV := [.int .i64 p.1, .list 41 (p.2.map enC)]
def idC (x : Int) : List AV := [.int .u64 x]
structure Dmv where
  raw : Raw9 71
  seeds : List UInt8
  id : Int
  node : Int
  mode : Int
  o : Raw 44
def encDmv (x : Dmv) : List AV := [.agg x.raw.1, .list 1 (x.seeds.map byte), .int .u64 x.id, .int .i64 x.node, .int .i64 x.mode, .agg x.o.1]
theorem w9 : (Lit.int .i64 9).wf = true := by decide
theorem mov_ok : FnC Tryz.prog 4 (mkS encDmv fun _ => (.bool true, [])) := by
  obtain ⟨SS, hSS, hse⟩ := saneD_ex
  obtain ⟨SD, hSD, hSDe⟩ := kpD_ex
  obtain ⟨SO, hSO, hSOe⟩ := kpO_ex
  obtain ⟨SM, hSM, hSMe⟩ := mr_ex
  have sp : ∀ p ∈ ([(25, ⟨1, SS⟩), (26, ⟨1, SD⟩), (8, ⟨1, SO⟩), (27, ⟨3, newS⟩), (28, ⟨3, SM⟩), (29, ⟨3, idS⟩), (10, ⟨3, diceS⟩), (30, ⟨1, askS⟩), (31, ⟨1, askS⟩), (32, ⟨1, sdrS⟩), (33, ⟨1, dmS⟩), (35, ⟨1, entS⟩), (36, ⟨1, rfnS⟩), (34, ⟨1, senS⟩), (37, ⟨1, retS⟩), (38, ⟨1, retS⟩), (39, ⟨1, vdS⟩), (40, ⟨1, vdS⟩)] : NL Spec), FnC Tryz.prog p.1 p.2.fn := by
    simp only [List.mem_cons, List.not_mem_nil, or_false]
    rintro p (rfl | rfl | rfl | rfl | rfl | rfl | rfl | rfl | rfl | rfl | rfl | rfl | rfl | rfl | rfl | rfl | rfl | rfl)
    · exact hSS
    · exact hSD
    · exact hSO
    · exact new_ok
    · exact hSM
    · exact id_ok
    · exact dice_ok
    · exact ask_ok
    · exact rask_ok
    · exact sdr_ok
    · exact dm_ok
    · exact ent_ok
    · exact rfn_ok
    · exact sen_ok
    · exact ret_ok
    · exact rret_ok
    · exact vdp_ok
    · exact rvd_ok
  refine FnC.walk 4 (fn := Tryz.f4) Tryz.func4 rfl (by kernel_rfl) fun x => ?_
  obtain ⟨raw, seeds, id, node, mode, o⟩ := x
  obtain ⟨rD, cD, bD, rfl, hbD⟩ := hSDe raw
  obtain ⟨rO, cO, bO, rfl, hbO⟩ := hSOe o
  simp only [encR, encR9] at cD cO
  obtain ⟨rc, rty⟩ := raw
  obtain ⟨oc, oty⟩ := o
  dsimp only at hbD hbO cD cO
  change W _ (Ret _ _ (.bool true) []) _ _ ⟨231, [(0, .agg rc), (1, .list 1 (seeds.map byte)), (2, .int .u64 id), (3, .int .i64 node), (4, .int .i64 mode), (5, .agg oc)], []⟩
  obtain ⟨rn, rrows, rfl, -⟩ := viewDir rty
  have r3 := raw_len oty
  have r0 := raw_all oty
  have hc : oc.all AV.cellish = true := by rw [List.all_eq_true] at r0 ⊢; intro x hx; exact (dat_split (r0 x hx)).1
  have hi : oc.all AV.isInl = true := by rw [List.all_eq_true] at r0 ⊢; intro x hx; exact (dat_split (r0 x hx)).2
  have r6 : ∀ b : Bool, oc.all (fun x => x.cellish && (!b || x.isInl)) = true := fun b => by
    rw [List.all_eq_true] at hc hi ⊢
    intro x hx
    simp [hc x hx, hi x hx]
  have r4 : oc.take 36 = oc := List.take_of_length_le (by omega)
  repeat' (first | refine ZV ?_ | refine ZB (id := 0) tm sp ?_ | refine ZB (id := 1) tm sp ?_ | refine ZB (id := 2) tm sp ?_ | refine ZB (id := 3) tm sp ?_ | refine ZB (id := 4) tm sp ?_ | refine ZH (fun hb => ?_) (fun hb => ?_) | refine ZJ (by conv => lhs; simp [hse, cD, cO, r3, r4, r6, hc, hi]) ?_ | refine ZA (fun hb => ?_) (fun hb => ?_))
  all_goals first
    | (exact Ret.dataR rfl (by conv => lhs; simp) (by conv => lhs; simp) rfl; done)
    | skip
  have hD : bD = true := by simpa using (by assumption : (!bD) = false)
  have hO : bO = true := by simpa using (by assumption : (!bO) = false)
  obtain ⟨rn1, rl, e0, hrl, hre⟩ := hbD hD
  simp only [List.cons.injEq, AV.int.injEq, AV.list.injEq, true_and, and_true] at e0
  obtain ⟨rfl, rfl⟩ := e0
  obtain ⟨ob, rfl⟩ : ∃ q : Ob, oc = q.cells := ⟨⟨oc, oty, hbO hO⟩, rfl⟩
  have hRs : Smd rl := ⟨by omega, fun e he => (hre e he).mono (by omega)⟩
  clear cD cO hbD hbO hc hi r0 r3 r4 r6 hb hD hO hre hrl
  have cN := newS_eq seeds
  obtain ⟨rM, cM, nx, lx, ds, hG, rfl⟩ := hSMe (seeds.take 400)
  generalize seeds.take 400 = s4 at *
  simp only [encD1, diceB] at cN cM
  repeat' (first | refine ZV ?_ | refine ZB (id := 5) tm sp ?_ | refine ZB (id := 6) tm sp ?_ | refine ZB (id := 7) tm sp ?_ | refine ZH (fun hb => ?_) (fun hb => ?_) | refine ZJ (by conv => lhs; simp [cN, cM]) ?_ | refine ZA (fun hb => ?_) (fun hb => ?_))

  clear cN cM hse
  refine W.loop rfl (ι := { p : Nat × NL ABlk × Int × List En × List UInt8 // p.1 ≤ 3 ∧ Gd (16 + p.1) p.2.2.1 p.2.2.2.1 ∧ lk p.2.1 112 = some { gen := 1, kind := 2, elem := 71, size := 2, inl := false, rows := [[.int .i64 rn, .list 41 (rl.map enC)]] } ∧ lk p.2.1 192 = some { gen := 1, kind := 2, elem := 44, size := 36, inl := false, rows := [ob.cells] } ∧ lk p.2.1 784 = some { gen := 1, kind := 2, elem := 98, size := 1, rows := [[.list 1 (p.2.2.2.2.map byte)]] } ∧ lk p.2.1 240 = some { gen := 1, kind := 2, elem := 71, size := 2, inl := false, rows := [[.int .i64 p.2.2.1, .list 41 (p.2.2.2.1.map enC)]] } })
    (fun p => ⟨231, [(2, .int .u64 id), (3, .int .i64 node), (4, .int .i64 mode), (6, .ptr 112 1 0 0), (11, .ptr 192 1 0 0), (13, .ptr 784 1 0 0), (14, .ptr 240 1 0 0), (15, .int .i64 (p.1.1 : Nat))], p.1.2.1⟩) (fun p => 3 - p.1.1)
    ⟨(0, _, nx, lx, ds), by simp, hG, rfl, rfl, rfl, rfl⟩ (AS.le_of rfl ⟨rfl, rfl, rfl, rfl, rfl, rfl, rfl, rfl, trivial⟩ (fun _ => rfl)) ?_
  clear hG
  rintro ⟨⟨a, H, nx, lx, ds⟩, ha, hG, h112, h192, h784, h240⟩
  dsimp only at ha hG h112 h192 h784 h240 ⊢
  by_cases ha2 : a = 3
  · subst ha2
    repeat' (first | refine ZV ?_ | refine ZB tm sp ?_ | refine ZH (fun hb => ?_) (fun hb => ?_) | refine ZJ (by conv => lhs; simp) ?_ | refine ZA (fun hb => ?_) (fun hb => ?_))
    all_goals (first | refine Ret.dataE rfl (by conv => lhs; simp) (by conv => lhs; simp) (by first | rfl | simp [inlT, inlV]) ?_ | refine RetNf.dataE rfl (by conv => lhs; simp) (by conv => lhs; simp) (by first | rfl | simp [inlT, inlV]) ?_)
    all_goals (first | rfl | (simp; done) | (simp_all; done) | (simp_all; omega))
  · have a1 : (a : Int) < 3 := by omega
    have a2 : a < 3 := by omega
    have aw : IntKind.i64.wrap ((a : Int) + 1) = ((a + 1 : Nat) : Int) := w64 (by omega) (by omega)
    have cid := idS_eq ds
    have wi := idV_wf ds
    have cn4 := diceS_eq (d3 ds) 4
    have cn2 := diceS_eq (dl (d3 ds) 4) 2
    have z0 := dn_nonneg (dl (d3 ds) 4) 2
    have z1 := dn_lt (dl (d3 ds) 4) (n := 2) (by omega)
    have hw1 : IntKind.i64.wrap (1 + dn (dl (d3 ds) 4) 2) = 1 + dn (dl (d3 ds) 4) 2 := w64 (by omega) (by omega)
    generalize idV ds = k at *
    generalize dl (dl (d3 ds) 4) 2 = ds2 at *
    generalize dn (dl (d3 ds) 4) 2 = m0 at *
    obtain ⟨m, hm⟩ : ∃ m, 1 + m0 = m := ⟨_, rfl⟩
    rw [hm] at hw1
    generalize dn (d3 ds) 4 = w at *
    generalize dl (d3 ds) 4 = e4 at *
    generalize d3 ds = e3 at *
    simp only [diceB] at cid cn4 cn2
    have m2' : (2 : Nat) ≤ maxLen := by decide
    have m3' : (3 : Nat) ≤ maxLen := by decide
    repeat' (first | refine ZV ?_ | refine ZB (id := 8) tm sp ?_ | refine ZB (id := 9) tm sp ?_ | refine ZB (id := 10) tm sp ?_ | refine ZB (id := 11) tm sp ?_ | refine ZH (fun hb => ?_) (fun hb => ?_) | refine ZJ (by conv => lhs; simp [a1, a2, h112, h192, h784, h240, cid, cn4, cn2, hm, hw1]) ?_ | refine ZA (fun hb => ?_) (fun hb => ?_))
    refine W.nrmB 320 (leafs Tryz.prog 44) (by simp [lk_st]; rfl) rfl ?_
    have hz := dv_nrm k 9
    simp only [dvC] at hz
    simp only [List.map_cons, List.map_nil, hz]
    rw [show dvN k 9 = (dvO k 9 wi w9).cells from rfl]
    generalize dvO k 9 wi w9 = ob2
    clear hz wi z0 z1 hm hw1 cid cn4 cn2
    repeat' (first | refine ZV ?_ | refine ZB (id := 12) tm sp ?_ | refine ZH (fun hb => ?_) (fun hb => ?_) | refine ZJ (by conv => lhs; simp [h112, h192, h784, h240, m2']) ?_ | refine ZA (fun hb => ?_) (fun hb => ?_))
    refine W.frz 66 rfl (by conv => lhs; simp [frqT, frqV, frqVs, frqL, frq1, frz1, lk_st]) ?_
    obtain ⟨dl, hdl⟩ : ∃ dl : List (Int × List En), dl = [(rn, rl), (nx, lx)] := ⟨_, rfl⟩
    rw [show ([[AV.int .i64 rn, .list 41 (rl.map enC)], [.int .i64 nx, .list 41 (lx.map enC)]] : List (List AV)) = dl.map drR by rw [hdl]; rfl]
    have hds : ∀ p ∈ dl, Smd p.2 := fun p hp => by
      rw [hdl] at hp
      simp only [List.mem_cons, List.not_mem_nil, or_false] at hp
      rcases hp with rfl | rfl
      · exact hRs
      · exact hG.smd (by omega)
    have hdn : dl.length = 2 := by rw [hdl]; rfl
    clear hdl

    generalize ((lk H 320).getD { }).gen + 1 = g19 at *
    refine W.loop rfl (ι := { p : Nat × NL ABlk // p.1 ≤ 2 ∧ lk p.2 112 = some { gen := 1, kind := 2, elem := 71, size := 2, inl := false, rows := [[.int .i64 rn, .list 41 (rl.map enC)]] } ∧ lk p.2 192 = some { gen := 1, kind := 2, elem := 44, size := 36, inl := false, rows := [ob.cells] } ∧ lk p.2 784 = some { gen := 1, kind := 2, elem := 98, size := 1, rows := [[.list 1 (ds2.map byte)]] } ∧ lk p.2 240 = some { gen := 1, kind := 2, elem := 71, size := 2, inl := false, rows := [[.int .i64 nx, .list 41 (lx.map enC)]] } ∧ lk p.2 320 = some { gen := g19, kind := 2, elem := 44, size := 36, inl := false, rows := [ob2.cells] } })
      (fun p => ⟨231, [(2, .int .u64 id), (3, .int .i64 node), (4, .int .i64 mode), (6, .ptr 112 1 0 0), (11, .ptr 192 1 0 0), (13, .ptr 784 1 0 0), (14, .ptr 240 1 0 0), (15, .int .i64 (a : Nat)), (16, .int .u64 k), (17, .int .i64 w), (18, .int .i64 m), (19, .ptr 320 g19 0 0), (66, .list 2 (dl.map drR)), (67, .int .i64 2), (68, .int .i64 (p.1.1 : Nat))], p.1.2⟩) (fun p => 2 - p.1.1)
      ⟨(0, _), by simp, by simp [lk_st, h112], by simp [lk_st, h192], by simp [lk_st, h784], by simp [lk_st, h240], by simp [lk_st]⟩ (AS.le_of rfl ⟨rfl, rfl, rfl, rfl, rfl, rfl, rfl, rfl, rfl, rfl, rfl, rfl, rfl, rfl, rfl, trivial⟩ (fun _ => rfl)) ?_
    clear h112 h192 h784 h240 H
    rintro ⟨⟨b, H⟩, hb0, h112, h192, h784, h240, h320⟩
    dsimp only at hb0 h112 h192 h784 h240 h320 ⊢
    by_cases hb2 : b = 2
    · subst hb2
      have cG := askS_eq (hG.drs (by omega)) k w m
      have hE := ask_gd (d := hG.drs (by omega)) hG (id := k) (n := w) (m := m)
      generalize askL (hG.drs (by omega)) k w m = RG at *
      obtain ⟨n', l', ms', e'⟩ := RG
      simp only [Gd.drs, Drs.v, rD] at cG hE
      repeat' (first | refine ZV ?_ | refine ZB tm sp ?_ | refine ZH (fun hb => ?_) (fun hb => ?_) | refine ZJ (by conv => lhs; simp [h112, h192, h784, h240, h320, cG, aw]) ?_ | refine ZA (fun hb => ?_) (fun hb => ?_))
      · exact ⟨⟨(a + 1, _, n', l', ds2), by dsimp only; omega, (hE (by simpa using hb)).1, by simp [lk_st, h112], by simp [lk_st, h192], by simp [lk_st, h784], by simp [lk_st]⟩, by dsimp only; omega, AS.le_of rfl ⟨rfl, rfl, rfl, rfl, rfl, rfl, rfl, rfl, trivial⟩ (fun _ => rfl)⟩
      · exact ⟨⟨(a + 1, _, nx, lx, ds2), by dsimp only; omega, hG.mono (by dsimp only; omega), by simp [lk_st, h112], by simp [lk_st, h192], by simp [lk_st, h784], by simp [lk_st, h240]⟩, by dsimp only; omega, AS.le_of rfl ⟨rfl, rfl, rfl, rfl, rfl, rfl, rfl, rfl, trivial⟩ (fun _ => rfl)⟩
    · have b1 : (b : Int) < 2 := by omega
      have b2 : b < 2 := by omega
      have bw : IntKind.i64.wrap ((b : Int) + 1) = ((b + 1 : Nat) : Int) := w64 (by omega) (by omega)
      obtain ⟨⟨n1, l1⟩, hr⟩ := get_lt (l := dl) (i := b) (by omega)
      have hm1 : (dl.map drR)[b]? = some [.int .i64 n1, .list 41 (l1.map enC)] := by rw [List.getElem?_map, hr]; rfl
      have b3 : ¬ 2 ≤ b := by omega
      have hS1 : Smd l1 := hds _ (List.mem_of_getElem? hr)
      repeat' (first | refine ZV ?_ | refine ZB (id := 13) tm sp ?_ | refine ZB (id := 14) tm sp ?_ | refine ZB (id := 15) tm sp ?_ | refine ZH (fun hb => ?_) (fun hb => ?_) | refine ZJ (by conv => lhs; simp [b1, b3, hdn, hm1, h112, h192, h784, h240, h320, m2']) ?_ | refine ZA (fun hb => ?_) (fun hb => ?_))
      refine W.frz 74 rfl (by conv => lhs; simp [frqT, frqV, frqVs, frqL, frq1, frz1, lk_st]) ?_
      obtain ⟨il, hil⟩ : ∃ il : List Int, il = [id, k] := ⟨_, rfl⟩
      rw [show ([[AV.int .u64 id], [.int .u64 k]] : List (List AV)) = il.map idC by rw [hil]; rfl]
      have hin : il.length = 2 := by rw [hil]; rfl
      clear hil
      generalize ((lk H 352).getD { }).gen + 1 = g21 at *
      refine W.loop rfl (ι := { p : Nat × NL ABlk // p.1 ≤ 2 ∧ lk p.2 112 = some { gen := 1, kind := 2, elem := 71, size := 2, inl := false, rows := [[.int .i64 rn, .list 41 (rl.map enC)]] } ∧ lk p.2 192 = some { gen := 1, kind := 2, elem := 44, size := 36, inl := false, rows := [ob.cells] } ∧ lk p.2 784 = some { gen := 1, kind := 2, elem := 98, size := 1, rows := [[.list 1 (ds2.map byte)]] } ∧ lk p.2 240 = some { gen := 1, kind := 2, elem := 71, size := 2, inl := false, rows := [[.int .i64 nx, .list 41 (lx.map enC)]] } ∧ lk p.2 320 = some { gen := g19, kind := 2, elem := 44, size := 36, inl := false, rows := [ob2.cells] } ∧ lk p.2 352 = some { gen := g21, kind := 2, elem := 71, size := 2, inl := false, rows := [[.int .i64 n1, .list 41 (l1.map enC)]] } })
        (fun p => ⟨231, [(2, .int .u64 id), (3, .int .i64 node), (4, .int .i64 mode), (6, .ptr 112 1 0 0), (11, .ptr 192 1 0 0), (13, .ptr 784 1 0 0), (14, .ptr 240 1 0 0), (15, .int .i64 (a : Nat)), (16, .int .u64 k), (17, .int .i64 w), (18, .int .i64 m), (19, .ptr 320 g19 0 0), (21, .ptr 352 g21 0 0), (66, .list 2 (dl.map drR)), (67, .int .i64 2), (68, .int .i64 (b : Nat)), (74, .list 1 (il.map idC)), (75, .int .i64 2), (76, .int .i64 (p.1.1 : Nat))], p.1.2⟩) (fun p => 2 - p.1.1)
        ⟨(0, _), by simp, by simp [lk_st, h112], by simp [lk_st, h192], by simp [lk_st, h784], by simp [lk_st, h240], by simp [lk_st, h320], by simp [lk_st]⟩ (AS.le_of rfl ⟨rfl, rfl, rfl, rfl, rfl, rfl, rfl, rfl, rfl, rfl, rfl, rfl, rfl, rfl, rfl, rfl, rfl, rfl, rfl, trivial⟩ (fun _ => rfl)) ?_
      clear h112 h192 h784 h240 h320 H
      rintro ⟨⟨c, H⟩, hc0, h112, h192, h784, h240, h320, h352⟩
      dsimp only at hc0 h112 h192 h784 h240 h320 h352 ⊢
      by_cases hc2 : c = 2
      · subst hc2
        have cv := vdS_eq (hS1.drs n1)
        simp only [Smd.drs, Drs.v] at cv
        generalize validD n1 l1 = vb at *
        cases vb
        all_goals (
          repeat' (first | refine ZV ?_ | refine ZB tm sp ?_ | refine ZH (fun hb => ?_) (fun hb => ?_) | refine ZJ (by conv => lhs; simp [h112, h192, h784, h240, h320, h352, cv, bw]) ?_ | refine ZA (fun hb => ?_) (fun hb => ?_))
          exact ⟨⟨(b + 1, _), by dsimp only; omega, by simp [lk_st, h112], by simp [lk_st, h192], by simp [lk_st, h784], by simp [lk_st, h240], by simp [lk_st, h320]⟩, by dsimp only; omega, AS.le_of rfl ⟨rfl, rfl, rfl, rfl, rfl, rfl, rfl, rfl, rfl, rfl, rfl, rfl, rfl, rfl, rfl, trivial⟩ (fun _ => rfl)⟩)
      · have c1 : (c : Int) < 2 := by omega
        have cw : IntKind.i64.wrap ((c : Int) + 1) = ((c + 1 : Nat) : Int) := w64 (by omega) (by omega)
        obtain ⟨i, hr⟩ := get_lt (l := il) (i := c) (by omega)
        have hm2 : (il.map idC)[c]? = some [.int .u64 i] := by rw [List.getElem?_map, hr]; rfl
        have c3 : ¬ 2 ≤ c := by omega
        clear hr
        have cA := askS_eq (hS1.drs n1) i w m
        obtain ⟨eA1, eA2⟩ := ask_eqs (n := n1) hS1 i w m
        generalize askL (hS1.drs n1) i w m = RA at *
        obtain ⟨q1, q2, q3, q4⟩ := RA
        have cB := askS_eq (hS1.drs n1) i node mode
        obtain ⟨eB1, eB2⟩ := ask_eqs (n := n1) hS1 i node mode
        generalize askL (hS1.drs n1) i node mode = RB at *
        obtain ⟨u1, u2, u3, u4⟩ := RB
        have cX := entS_eq (hS1.drs n1) i
        have cY := rfnS_eq (hS1.drs n1) i
        have oX : okE (fndD i l1) := by
          have := hS1.fnd i
          unfold Smo at this
          exact ⟨by omega, by omega, by omega⟩
        simp only [Smd.drs, Drs.v, rD] at cA cB cX cY
        dsimp only at eA1 eA2 eB1 eB2
        have cs := senS_eq (fndD i l1) oX
        generalize fndD i l1 = E at *
        obtain ⟨f1, f2, rd, o, wt, q⟩ := E
        simp only [enX, ixiB, ixaB] at cX
        simp only [enC] at cs cY
        have t1 : List.take rd.length (rd.map iC) = rd.map iC := List.take_of_length_le (by simp)
        have t2 : List.take wt.length (wt.map iC) = wt.map iC := List.take_of_length_le (by simp)
        have t3 : List.take q.length (q.map askC) = q.map askC := List.take_of_length_le (by simp)
        repeat' (first | refine ZV ?_ | refine ZB (id := 16) tm sp ?_ | refine ZB (id := 17) tm sp ?_ | refine ZB (id := 18) tm sp ?_ | refine ZB (id := 19) tm sp ?_ | refine ZH (fun hb => ?_) (fun hb => ?_) | refine ZJ (by conv => lhs; simp [c1, c3, hin, hm2, h112, h192, h784, h240, h320, h352, cA]) ?_ | refine ZA (fun hb => ?_) (fun hb => ?_))
        repeat' (first | refine ZV ?_ | refine ZB (id := 20) tm sp ?_ | refine ZB (id := 21) tm sp ?_ | refine ZB (id := 22) tm sp ?_ | refine ZB (id := 23) tm sp ?_ | refine ZB (id := 24) tm sp ?_ | refine ZB (id := 25) tm sp ?_ | refine ZH (fun hb => ?_) (fun hb => ?_) | refine ZJ (by conv => lhs; simp [h112, h192, h784, h240, h320, h352, cA, cB, eA1, eA2, eB1, eB2, cX, cY, cs, t1, t2, t3, bne_self']) ?_ | refine ZA (fun hb => ?_) (fun hb => ?_))
        clear cA cB eA1 eA2 eB1 eB2 cX cs t1 t2 t3 oX
        repeat' (first | refine ZV ?_ | refine ZB (id := 26) tm sp ?_ | refine ZH (fun hb => ?_) (fun hb => ?_) | refine ZJ (by conv => lhs; simp [h112, h192, h784, h240, h320, h352, m3']) ?_ | refine ZA (fun hb => ?_) (fun hb => ?_))
        refine W.nrmB 2560 (leafs Tryz.prog 44) (by simp [lk_st]; rfl) rfl ?_
        have hz := zN_eq
        simp only [zO] at hz
        simp only [List.map_cons, List.map_nil, hz, Td.nrmL]
        rw [show zN = zOb.cells from rfl]
        refine W.frz 159 rfl (by conv => lhs; simp [frqT, frqV, frqVs, frqL, frq1, frz1, lk_st]) ?_
        obtain ⟨ol, hol⟩ : ∃ ol : List Ob, ol = [ob, ob2, zOb] := ⟨_, rfl⟩
        rw [show ([ob.cells, ob2.cells, zOb.cells] : List (List AV)) = ol.map Td.cells by rw [hol]; rfl]
        have hon : ol.length = 3 := by rw [hol]; rfl
        clear hol hz
        generalize ((lk H 400).getD { }).gen + 1 = g24 at *
        generalize ((lk H 448).getD { }).gen + 1 = g27 at *
        refine W.loop rfl (ι := { p : Nat × NL ABlk × Int × List En × Int × List En // p.1 ≤ 3 ∧ lk p.2.1 112 = some { gen := 1, kind := 2, elem := 71, size := 2, inl := false, rows := [[.int .i64 rn, .list 41 (rl.map enC)]] } ∧ lk p.2.1 192 = some { gen := 1, kind := 2, elem := 44, size := 36, inl := false, rows := [ob.cells] } ∧ lk p.2.1 784 = some { gen := 1, kind := 2, elem := 98, size := 1, rows := [[.list 1 (ds2.map byte)]] } ∧ lk p.2.1 240 = some { gen := 1, kind := 2, elem := 71, size := 2, inl := false, rows := [[.int .i64 nx, .list 41 (lx.map enC)]] } ∧ lk p.2.1 320 = some { gen := g19, kind := 2, elem := 44, size := 36, inl := false, rows := [ob2.cells] } ∧ lk p.2.1 352 = some { gen := g21, kind := 2, elem := 71, size := 2, inl := false, rows := [[.int .i64 n1, .list 41 (l1.map enC)]] } ∧ lk p.2.1 400 = some { gen := g24, kind := 2, elem := 71, size := 2, inl := false, rows := [[.int .i64 p.2.2.1, .list 41 (p.2.2.2.1.map enC)]] } ∧ lk p.2.1 448 = some { gen := g27, kind := 2, elem := 71, size := 2, inl := false, rows := [[.int .i64 p.2.2.2.2.1, .list 41 (p.2.2.2.2.2.map enC)]] } })
          (fun p => ⟨231, [(2, .int .u64 id), (3, .int .i64 node), (4, .int .i64 mode), (6, .ptr 112 1 0 0), (11, .ptr 192 1 0 0), (13, .ptr 784 1 0 0), (14, .ptr 240 1 0 0), (15, .int .i64 (a : Nat)), (16, .int .u64 k), (17, .int .i64 w), (18, .int .i64 m), (19, .ptr 320 g19 0 0), (21, .ptr 352 g21 0 0), (23, .int .u64 i), (24, .ptr 400 g24 0 0), (27, .ptr 448 g27 0 0), (66, .list 2 (dl.map drR)), (67, .int .i64 2), (68, .int .i64 (b : Nat)), (74, .list 1 (il.map idC)), (75, .int .i64 2), (76, .int .i64 (c : Nat)), (159, .list 36 (ol.map Td.cells)), (160, .int .i64 3), (161, .int .i64 (p.1.1 : Nat))], p.1.2.1⟩) (fun p => 3 - p.1.1)
          ⟨(0, _, u1, u2, u1, u2), by simp, by simp [lk_st, h112], by simp [lk_st, h192], by simp [lk_st, h784], by simp [lk_st, h240], by simp [lk_st, h320], by simp [lk_st, h352], by simp [lk_st], by simp [lk_st]⟩ (AS.le_of rfl ⟨rfl, rfl, rfl, rfl, rfl, rfl, rfl, rfl, rfl, rfl, rfl, rfl, rfl, rfl, rfl, rfl, rfl, rfl, rfl, rfl, rfl, rfl, rfl, rfl, rfl, trivial⟩ (fun _ => rfl)) ?_
        clear h112 h192 h784 h240 h320 h352 H
        rintro ⟨⟨d, H, p1, p2, p3, p4⟩, hd0, h112, h192, h784, h240, h320, h352, h400, h448⟩
        dsimp only at hd0 h112 h192 h784 h240 h320 h352 h400 h448 ⊢
        by_cases hd2 : d = 3
        · subst hd2
          repeat' (first | refine ZV ?_ | refine ZB tm sp ?_ | refine ZH (fun hb => ?_) (fun hb => ?_) | refine ZJ (by conv => lhs; simp [cw]) ?_ | refine ZA (fun hb => ?_) (fun hb => ?_))
          exact ⟨⟨(c + 1, _), by dsimp only; omega, by simp [lk_st, h112], by simp [lk_st, h192], by simp [lk_st, h784], by simp [lk_st, h240], by simp [lk_st, h320], by simp [lk_st, h352]⟩, by dsimp only; omega, AS.le_of rfl ⟨rfl, rfl, rfl, rfl, rfl, rfl, rfl, rfl, rfl, rfl, rfl, rfl, rfl, rfl, rfl, rfl, rfl, rfl, rfl, trivial⟩ (fun _ => rfl)⟩
        · have d1 : (d : Int) < 3 := by omega
          have dw : IntKind.i64.wrap ((d : Int) + 1) = ((d + 1 : Nat) : Int) := w64 (by omega) (by omega)
          obtain ⟨oz, hr⟩ := get_lt (l := ol) (i := d) (by omega)
          have hm3 : (ol.map Td.cells)[d]? = some oz.cells := by rw [List.getElem?_map, hr]; rfl
          have d3' : ¬ 3 ≤ d := by omega
          clear hr
          repeat' (first | refine ZV ?_ | refine ZB (id := 27) tm sp ?_ | refine ZB (id := 28) tm sp ?_ | refine ZB (id := 29) tm sp ?_ | refine ZH (fun hb => ?_) (fun hb => ?_) | refine ZJ (by conv => lhs; simp [d1, d3', hon, hm3, h112, h192, h784, h240, h320, h352, h400, h448, cY, m3']) ?_ | refine ZA (fun hb => ?_) (fun hb => ?_))
          refine W.frz 171 rfl (by conv => lhs; simp [frqT, frqV, frqVs, frqL, frq1, frz1, lk_st]) ?_
          obtain ⟨vl, hvl⟩ : ∃ vl : List Int, vl = [node, w, f2] := ⟨_, rfl⟩
          rw [show ([[AV.int .i64 node], [.int .i64 w], [.int .i64 f2]] : List (List AV)) = vl.map iC by rw [hvl]; rfl]
          have hvn : vl.length = 3 := by rw [hvl]; rfl
          clear hvl
          generalize ((lk H 512).getD { }).gen + 1 = g31 at *
          refine W.loop rfl (ι := { p : Nat × NL ABlk × Int × List En × Int × List En // p.1 ≤ 3 ∧ lk p.2.1 112 = some { gen := 1, kind := 2, elem := 71, size := 2, inl := false, rows := [[.int .i64 rn, .list 41 (rl.map enC)]] } ∧ lk p.2.1 192 = some { gen := 1, kind := 2, elem := 44, size := 36, inl := false, rows := [ob.cells] } ∧ lk p.2.1 784 = some { gen := 1, kind := 2, elem := 98, size := 1, rows := [[.list 1 (ds2.map byte)]] } ∧ lk p.2.1 240 = some { gen := 1, kind := 2, elem := 71, size := 2, inl := false, rows := [[.int .i64 nx, .list 41 (lx.map enC)]] } ∧ lk p.2.1 320 = some { gen := g19, kind := 2, elem := 44, size := 36, inl := false, rows := [ob2.cells] } ∧ lk p.2.1 352 = some { gen := g21, kind := 2, elem := 71, size := 2, inl := false, rows := [[.int .i64 n1, .list 41 (l1.map enC)]] } ∧ lk p.2.1 400 = some { gen := g24, kind := 2, elem := 71, size := 2, inl := false, rows := [[.int .i64 p.2.2.1, .list 41 (p.2.2.2.1.map enC)]] } ∧ lk p.2.1 448 = some { gen := g27, kind := 2, elem := 71, size := 2, inl := false, rows := [[.int .i64 p.2.2.2.2.1, .list 41 (p.2.2.2.2.2.map enC)]] } ∧ lk p.2.1 512 = some { gen := g31, kind := 2, elem := 44, size := 36, inl := false, rows := [oz.cells] } })
            (fun p => ⟨231, [(2, .int .u64 id), (3, .int .i64 node), (4, .int .i64 mode), (6, .ptr 112 1 0 0), (11, .ptr 192 1 0 0), (13, .ptr 784 1 0 0), (14, .ptr 240 1 0 0), (15, .int .i64 (a : Nat)), (16, .int .u64 k), (17, .int .i64 w), (18, .int .i64 m), (19, .ptr 320 g19 0 0), (21, .ptr 352 g21 0 0), (23, .int .u64 i), (24, .ptr 400 g24 0 0), (27, .ptr 448 g27 0 0), (31, .ptr 512 g31 0 0), (66, .list 2 (dl.map drR)), (67, .int .i64 2), (68, .int .i64 (b : Nat)), (74, .list 1 (il.map idC)), (75, .int .i64 2), (76, .int .i64 (c : Nat)), (159, .list 36 (ol.map Td.cells)), (160, .int .i64 3), (161, .int .i64 (d : Nat)), (171, .list 1 (vl.map iC)), (172, .int .i64 3), (173, .int .i64 (p.1.1 : Nat))], p.1.2.1⟩) (fun p => 3 - p.1.1)
            ⟨(0, _, p1, p2, p3, p4), by simp, by simp [lk_st, h112], by simp [lk_st, h192], by simp [lk_st, h784], by simp [lk_st, h240], by simp [lk_st, h320], by simp [lk_st, h352], by simp [lk_st, h400], by simp [lk_st, h448], by simp [lk_st]⟩ (AS.le_of rfl ⟨rfl, rfl, rfl, rfl, rfl, rfl, rfl, rfl, rfl, rfl, rfl, rfl, rfl, rfl, rfl, rfl, rfl, rfl, rfl, rfl, rfl, rfl, rfl, rfl, rfl, rfl, rfl, rfl, rfl, trivial⟩ (fun _ => rfl)) ?_
          clear h112 h192 h784 h240 h320 h352 h400 h448 H p1 p2 p3 p4
          rintro ⟨⟨f, H, p1, p2, p3, p4⟩, hf0, h112, h192, h784, h240, h320, h352, h400, h448, h512⟩
          dsimp only at hf0 h112 h192 h784 h240 h320 h352 h400 h448 h512 ⊢
          by_cases hf2 : f = 3
          · subst hf2
            repeat' (first | refine ZV ?_ | refine ZB tm sp ?_ | refine ZH (fun hb => ?_) (fun hb => ?_) | refine ZJ (by conv => lhs; simp [dw]) ?_ | refine ZA (fun hb => ?_) (fun hb => ?_))
            exact ⟨⟨(d + 1, _, p1, p2, p3, p4), by dsimp only; omega, by simp [lk_st, h112], by simp [lk_st, h192], by simp [lk_st, h784], by simp [lk_st, h240], by simp [lk_st, h320], by simp [lk_st, h352], by simp [lk_st, h400], by simp [lk_st, h448]⟩, by dsimp only; omega, AS.le_of rfl ⟨rfl, rfl, rfl, rfl, rfl, rfl, rfl, rfl, rfl, rfl, rfl, rfl, rfl, rfl, rfl, rfl, rfl, rfl, rfl, rfl, rfl, rfl, rfl, rfl, rfl, trivial⟩ (fun _ => rfl)⟩
          · have f1' : (f : Int) < 3 := by omega
            have fw : IntKind.i64.wrap ((f : Int) + 1) = ((f + 1 : Nat) : Int) := w64 (by omega) (by omega)
            obtain ⟨v, hr⟩ := get_lt (l := vl) (i := f) (by omega)
            have hm4 : (vl.map iC)[f]? = some [.int .i64 v] := by rw [List.getElem?_map, hr]; rfl
            have f3' : ¬ 3 ≤ f := by omega
            clear hr
            have cR := retS_eq (hS1.drs n1) i v oz
            obtain ⟨eR1, eR2⟩ := ret_eqs (n := n1) hS1 i v oz
            generalize retL (hS1.drs n1) i v oz = RR at *
            obtain ⟨r1, r2, r3, r4⟩ := RR
            simp only [Smd.drs, Drs.v, rD] at cR
            dsimp only at eR1 eR2
            repeat' (first | refine ZV ?_ | refine ZB tm sp ?_ | refine ZH (fun hb => ?_) (fun hb => ?_) | refine ZJ (by conv => lhs; simp [f1', f3', hvn, hm4, h112, h192, h784, h240, h320, h352, h400, h448, h512, cR, eR1, eR2, bne_self', fw]) ?_ | refine ZA (fun hb => ?_) (fun hb => ?_))
            exact ⟨⟨(f + 1, _, r1, r2, r1, r2), by dsimp only; omega, by simp [lk_st, h112], by simp [lk_st, h192], by simp [lk_st, h784], by simp [lk_st, h240], by simp [lk_st, h320], by simp [lk_st, h352], by simp [lk_st], by simp [lk_st], by simp [lk_st, h512]⟩, by dsimp only; omega, AS.le_of rfl ⟨rfl, rfl, rfl, rfl, rfl, rfl, rfl, rfl, rfl, rfl, rfl, rfl, rfl, rfl, rfl, rfl, rfl, rfl, rfl, rfl, rfl, rfl, rfl, rfl, rfl, rfl, rfl, rfl, rfl, trivial⟩ (fun _ => rfl)⟩
          end Go.Abs.Nz
namespace Go.Abs.Nz
open Go Go.Proofs Go.Abs
set_option maxRecDepth 100000
set_option maxHeartbeats 4000000
set_option linter.unusedSimpArgs false
set_option linter.unusedVariables false
theorem TyFs.mono_mem {q q' : TypeId → List AV → Prop} : ∀ {ts : List TypeId} {xs : List AV}, (∀ t ∈ ts, ∀ xs, q t xs → q' t xs) → TyFs q ts xs → TyFs q' ts xs
  | [], _, _, h => h
  | t :: ts, _, hq, ⟨a, b, e, h1, h2⟩ => ⟨a, b, e, hq t (by simp) a h1, TyFs.mono_mem (fun t ht => hq t (by simp [ht])) h2⟩
theorem TyR.lower {P : Program} : ∀ {m n : Nat} {t : TypeId} {xs : List AV}, plainT P m t = true → TyR P n t xs → TyR P m t xs
  | 0, _, _, _, hp, _ => by simp [plainT] at hp
  | m + 1, 0, _, _, _, h => h.elim
  | m + 1, n + 1, t, xs, hp, h => by
    rw [TyR] at h ⊢
    rw [plainT] at hp
    split at hp
    · rename_i hu; rw [hu] at h; exact h
    · rename_i hu; rw [hu] at h; exact h
    · rename_i hu; rw [hu] at h; exact h
    · rename_i e hu
      rw [hu] at h
      simp only [Bool.and_eq_true] at hp
      obtain ⟨rows, h1, h2, h3⟩ := h
      exact ⟨rows, h1, h2, fun r hr => TyR.lower hp.2 (h3 r hr)⟩
    · rename_i fs hu
      rw [hu] at h
      simp only [Bool.and_eq_true, List.all_eq_true] at hp
      refine TyFs.mono_mem (fun t ht xs hx => ?_) h
      obtain ⟨f, hf, rfl⟩ := List.mem_map.1 ht
      exact TyR.lower (hp.2 f hf) hx
    · rename_i k e hu
      rw [hu] at h
      simp only [Bool.and_eq_true] at hp
      refine TyFs.mono_mem (fun t ht xs hx => ?_) h
      rw [List.eq_of_mem_replicate ht] at hx ⊢
      exact TyR.lower hp.2 hx
    · cases hp
theorem plOb : plainT Tryz.prog 8 44 = true := by kernel_rfl
theorem shDir {x : AV} (h : TyV Tryz.prog 9 71 x) : ∃ r : Raw9 71, x = .agg r.1 := by
  simp only [TyV, Tryz.underlying71] at h
  obtain ⟨cs, rfl, h⟩ := h
  exact ⟨⟨cs, h⟩, rfl⟩
theorem shOb {x : AV} (h : TyV Tryz.prog 9 44 x) : ∃ r : Raw 44, x = .agg r.1 := by
  simp only [TyV, Tryz.underlying44] at h
  obtain ⟨cs, rfl, h⟩ := h
  exact ⟨⟨cs, TyR.lower plOb h⟩, rfl⟩
theorem shInt {x : AV} (h : TyV Tryz.prog 9 3 x) : ∃ n : Int, x = .int .i64 n := by
  simp only [TyV, TyR, Tryz.underlying3, List.cons.injEq, and_true] at h
  obtain ⟨m, rfl, hm⟩ := h
  exact ⟨m, rfl⟩
theorem shU64 {x : AV} (h : TyV Tryz.prog 9 26 x) : ∃ n : Int, (Lit.int .u64 n).wf = true ∧ x = .int .u64 n := by
  simp only [TyV, TyR, Tryz.underlying26, List.cons.injEq, and_true] at h
  obtain ⟨m, rfl, hm⟩ := h
  exact ⟨m, hm, rfl⟩
theorem shBytes {x : AV} (h : TyV Tryz.prog 9 25 x) : ∃ l : List UInt8, x = .list 1 (l.map byte) := by
  simp only [TyV, TyR, Tryz.underlying25, Tryz.underlying5, vc5, List.cons.injEq, and_true] at h
  obtain ⟨rows, rfl, hl, h⟩ := h
  have : ∀ rows : List (List AV), (∀ row ∈ rows, ∃ m, row = [AV.int .u8 m] ∧ (Lit.int .u8 m).wf = true) → ∃ l : List UInt8, rows = l.map byte := by
    intro rows
    induction rows with
    | nil => exact fun _ => ⟨[], rfl⟩
    | cons r rs ih =>
      intro h
      obtain ⟨l, hl⟩ := ih fun row hr => h row (by simp [hr])
      obtain ⟨m, rfl, hm⟩ := h r (by simp)
      simp only [Lit.wf, Bool.and_eq_true, decide_eq_true_eq] at hm
      have h1 : (0 : Int) ≤ m := hm.1
      have h2 : m ≤ 255 := hm.2
      refine ⟨UInt8.ofNat m.toNat :: l, ?_⟩
      rw [List.map_cons, hl]
      congr 1
      simp only [byte, UInt8.toNat_ofNat', List.cons.injEq, AV.int.injEq, true_and, and_true]
      omega
  obtain ⟨l, rfl⟩ := this rows h
  exact ⟨l, rfl⟩
theorem mov_eq (x : Dmv) : mkS encDmv (fun _ => (AV.bool true, ([] : List ABlk))) (encDmv x) [] = some (.bool true, []) := mkS_eq (enc := encDmv) (fun _ _ _ => rfl) x
end Go.Abs.Nz
