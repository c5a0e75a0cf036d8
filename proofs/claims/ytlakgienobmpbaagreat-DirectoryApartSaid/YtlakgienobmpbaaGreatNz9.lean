/- What happens to one object changes nothing of another one: the walk. Conditions: none. -/
import Derived.Test.YtlakgienobmpbaaGreatNz8
import Derived.Test.YtlakgienobmpbaaGreatAb8
namespace Go.Abs.Nz
open Go Go.Proofs Go.Abs
set_option maxRecDepth 100000
set_option maxHeartbeats 4000000
set_option linter.unusedSimpArgs false
set_option linter.unusedVariables false
attribute [local simp] instA slice3A slice3C
attribute [-simp] mkv
attribute [local simp] mkv_hd hdA_cons hdA_ob hdA_ob' listR_ob
theorem retN_zO (d : Drs) (id n : Int) : retN [d.v, .int .u64 id, .int .i64 n, .agg zO] [] = some (rD (retL d id n zOb).1 (retL d id n zOb).2.1 (retL d id n zOb).2.2.1 (retL d id n zOb).2.2.2, []) := by
  rw [retN, nS_eq]
  simp only [nrmL]
  rw [show nrmV Tryz.prog 71 d.v = d.v from drs_nrmV _ _, show nrmV Tryz.prog 44 (.agg zO) = .agg zOb.cells by rw [nrmV, zN_eq]; rfl]
  exact retS_eq d id n _
noncomputable def apaS : SpecFn := mkS (fun l : {l : List UInt8 // l.length ≤ maxLen} => [.list 1 (l.1.map byte)]) fun _ => (.bool true, [])
theorem apaS_eq (l : {l : List UInt8 // l.length ≤ maxLen}) : apaS [.list 1 (l.1.map byte)] [] = some (.bool true, []) :=
  mkS_eq (enc := fun l : {l : List UInt8 // l.length ≤ maxLen} => [.list 1 (l.1.map byte)]) (fun x y _ => rfl) l
theorem apa_ok : FnC Tryz.prog 5 apaS := by
  obtain ⟨SS, hSS, hse⟩ := saneD_ex
  obtain ⟨SM, hSM, hSMe⟩ := mr_ex
  have sp : ∀ p ∈ ([(25, ⟨1, SS⟩), (27, ⟨3, newS⟩), (28, ⟨3, SM⟩), (29, ⟨3, idS⟩), (10, ⟨3, diceS⟩), (30, ⟨1, askS⟩), (37, ⟨1, retN⟩), (35, ⟨1, entS⟩), (34, ⟨1, senS⟩), (39, ⟨1, vdS⟩)] : NL Spec), FnC Tryz.prog p.1 p.2.fn := by
    simp only [List.mem_cons, List.not_mem_nil, or_false]
    rintro p (rfl | rfl | rfl | rfl | rfl | rfl | rfl | rfl | rfl | rfl)
    · exact hSS
    · exact new_ok
    · exact hSM
    · exact id_ok
    · exact dice_ok
    · exact ask_ok
    · exact retN_ok
    · exact ent_ok
    · exact sen_ok
    · exact vdp_ok
  refine FnC.walk 5 (fn := Tryz.f5) Tryz.func5 rfl (by kernel_rfl) fun x => ?_
  obtain ⟨sd, hsd⟩ := x
  change W _ (Ret _ _ (.bool true) []) _ _ ⟨80, [(0, .list 1 (sd.map byte))], []⟩
  have cN := newS_eq sd
  obtain ⟨r, cM, nd, l, ds, hG, rfl⟩ := hSMe (sd.take 400)
  generalize sd.take 400 = d0 at *
  have ci := idS_eq ds
  have cj := idS_eq (d3 ds)
  generalize idV ds = i at *
  generalize hj : idV (d3 ds) = j at *
  generalize d3 (d3 ds) = e2 at *
  generalize d3 ds = e1 at *
  simp only [diceB, encD1] at cN cM ci cj
  clear hj
  by_cases hij : i = j
  · have g0 : (i == j) = true := by simp [hij]
    repeat' (first | refine ZV ?_ | refine ZB tm sp ?_ | refine ZH (fun hb => ?_) (fun hb => ?_) | refine ZJ (by conv => lhs; simp [hse, cN, cM, ci, cj, g0]) ?_ | refine ZA (fun hb => ?_) (fun hb => ?_))
    all_goals (first | refine Ret.dataE rfl (by conv => lhs; simp) (by conv => lhs; simp) (by first | rfl | simp [inlT, inlV]) ?_ | refine RetNf.dataE rfl (by conv => lhs; simp) (by conv => lhs; simp) (by first | rfl | simp [inlT, inlV]) ?_)
    all_goals (first | rfl | (simp; done) | (simp_all; done) | (simp_all; omega))
  · have g0 : (i == j) = false := by simp [hij]
    have hji : j ≠ i := fun h => hij h.symm
    have n1 := diceS_eq e2 4
    have n2 := diceS_eq (dl e2 4) 2
    have a0 := dn_nonneg (dl e2 4) 2
    have a1 := dn_lt (dl e2 4) (n := 2) (by omega)
    have hw1 : IntKind.i64.wrap (1 + dn (dl e2 4) 2) = 1 + dn (dl e2 4) 2 := w64 (by omega) (by omega)
    have n3 := diceS_eq (dl (dl e2 4) 2) 4
    have cA := askS_eq (hG.drs (by omega)) i (dn e2 4) (1 + dn (dl e2 4) 2)
    have hA := ask_gd (d := hG.drs (by omega)) hG (id := i) (n := dn e2 4) (m := 1 + dn (dl e2 4) 2)
    generalize askL (hG.drs (by omega)) i (dn e2 4) (1 + dn (dl e2 4) 2) = RA at *
    have cR := retN_zO (hG.drs (by omega)) i (dn (dl (dl e2 4) 2) 4)
    have hR := ret_gd (d := hG.drs (by omega)) hG (id := i) (n := dn (dl (dl e2 4) 2) 4) (o := zOb)
    generalize retL (hG.drs (by omega)) i (dn (dl (dl e2 4) 2) 4) zOb = RR at *
    generalize dn (dl (dl e2 4) 2) 4 = x3 at *
    generalize dl (dl (dl e2 4) 2) 4 = e5 at *
    generalize dn (dl e2 4) 2 = x2 at *
    generalize dl (dl e2 4) 2 = e4 at *
    generalize dn e2 4 = x1 at *
    generalize dl e2 4 = e3 at *
    have cX := entS_eq (hG.drs (by omega)) j
    have oX := (fndD_ok (hG.okE (by omega)) hG.v j).1
    obtain ⟨yn, yl, ym, ye⟩ := RA
    obtain ⟨zn, zl, zm, ze⟩ := RR
    dsimp only at hA hR
    have hAv : ye = 0 → entS [.agg [.int .i64 yn, .list 41 (yl.map enC)], .int .u64 j] [] = entS [(hG.drs (by omega)).v, .int .u64 j] [] ∧ vdS [.agg [.int .i64 yn, .list 41 (yl.map enC)]] [] = some (.bool true, []) := fun h => by
      obtain ⟨h1, h2⟩ := hA h
      have h3 := entS_eq (h1.drs (by omega)) j
      have h4 := vdS_eq (h1.drs (by omega))
      simp only [Gd.drs, Drs.v] at h3 h4 cX ⊢
      have h5 := h2 j hji
      simp only [Gd.drs] at h5
      rw [h3, cX, h4, h5, h1.v]
      exact ⟨rfl, rfl⟩
    have hRv : ze = 0 → entS [.agg [.int .i64 zn, .list 41 (zl.map enC)], .int .u64 j] [] = entS [(hG.drs (by omega)).v, .int .u64 j] [] ∧ vdS [.agg [.int .i64 zn, .list 41 (zl.map enC)]] [] = some (.bool true, []) := fun h => by
      obtain ⟨h1, h2⟩ := hR h
      have h3 := entS_eq (h1.drs (by omega)) j
      have h4 := vdS_eq (h1.drs (by omega))
      simp only [Gd.drs, Drs.v] at h3 h4 cX ⊢
      have h5 := h2 j hji
      simp only [Gd.drs] at h5
      rw [h3, cX, h4, h5, h1.v]
      exact ⟨rfl, rfl⟩
    rw [cX] at hAv hRv
    clear hA hR
    simp only [Gd.drs, Drs.v, rD, diceB, zO] at cA cR cX n1 n2 n3 hAv hRv
    generalize fndD j l = E at *
    obtain ⟨f1, f2, rd, o, wt, q⟩ := E
    have cs := senS_eq ⟨f1, f2, rd, o, wt, q⟩ oX
    simp only [enX, ixiB, ixaB] at cX hAv hRv
    simp only [enC] at cs
    have t1 : List.take rd.length (rd.map iC) = rd.map iC := List.take_of_length_le (by simp)
    have t2 : List.take wt.length (wt.map iC) = wt.map iC := List.take_of_length_le (by simp)
    have t3 : List.take q.length (q.map askC) = q.map askC := List.take_of_length_le (by simp)
    repeat' (first | refine ZV ?_ | refine ZB (id := 0) tm sp ?_ | refine ZB (id := 1) tm sp ?_ | refine ZB (id := 2) tm sp ?_ | refine ZB (id := 3) tm sp ?_ | refine ZB (id := 4) tm sp ?_ | refine ZB (id := 5) tm sp ?_ | refine ZB (id := 6) tm sp ?_ | refine ZB (id := 7) tm sp ?_ | refine ZB (id := 8) tm sp ?_ | refine ZB (id := 9) tm sp ?_ | refine ZH (fun hb => ?_) (fun hb => ?_) | refine ZJ (by conv => lhs; simp [hse, cN, cM, ci, cj, g0, n1, n2, n3, hw1, cA, cR]) ?_ | refine ZA (fun hb => ?_) (fun hb => ?_))
    by_cases h1 : ye = 0
    · obtain ⟨p1, p2⟩ := hAv h1
      have b1 : (ye != 0) = false := by simp [h1]
      clear h1 hAv
      by_cases h2 : ze = 0
      · obtain ⟨p3, p4⟩ := hRv h2
        have b2 : (ze != 0) = false := by simp [h2]
        clear h2 hRv
        repeat' (first | refine ZV ?_ | refine ZB tm sp ?_ | refine ZH (fun hb => ?_) (fun hb => ?_) | refine ZJ (by conv => lhs; simp [b1, b2, p1, p2, p3, p4, cX, cs, t1, t2, t3]) ?_ | refine ZA (fun hb => ?_) (fun hb => ?_))
        all_goals (first | refine Ret.dataE rfl (by conv => lhs; simp) (by conv => lhs; simp) (by first | rfl | simp [inlT, inlV]) ?_ | refine RetNf.dataE rfl (by conv => lhs; simp) (by conv => lhs; simp) (by first | rfl | simp [inlT, inlV]) ?_)
        all_goals (first | rfl | (simp; done) | (simp_all; done) | (simp_all; omega))
      · have b2 : (ze != 0) = true := by simp [h2]
        clear h2 hRv
        repeat' (first | refine ZV ?_ | refine ZB tm sp ?_ | refine ZH (fun hb => ?_) (fun hb => ?_) | refine ZJ (by conv => lhs; simp [b1, b2, p1, p2, cX, cs, t1, t2, t3]) ?_ | refine ZA (fun hb => ?_) (fun hb => ?_))
        all_goals (first | refine Ret.dataE rfl (by conv => lhs; simp) (by conv => lhs; simp) (by first | rfl | simp [inlT, inlV]) ?_ | refine RetNf.dataE rfl (by conv => lhs; simp) (by conv => lhs; simp) (by first | rfl | simp [inlT, inlV]) ?_)
        all_goals (first | rfl | (simp; done) | (simp_all; done) | (simp_all; omega))
    · have b1 : (ye != 0) = true := by simp [h1]
      clear h1 hAv
      by_cases h2 : ze = 0
      · obtain ⟨p3, p4⟩ := hRv h2
        have b2 : (ze != 0) = false := by simp [h2]
        clear h2 hRv
        repeat' (first | refine ZV ?_ | refine ZB tm sp ?_ | refine ZH (fun hb => ?_) (fun hb => ?_) | refine ZJ (by conv => lhs; simp [b1, b2, p3, p4, cX, cs, t1, t2, t3]) ?_ | refine ZA (fun hb => ?_) (fun hb => ?_))
        all_goals (first | refine Ret.dataE rfl (by conv => lhs; simp) (by conv => lhs; simp) (by first | rfl | simp [inlT, inlV]) ?_ | refine RetNf.dataE rfl (by conv => lhs; simp) (by conv => lhs; simp) (by first | rfl | simp [inlT, inlV]) ?_)
        all_goals (first | rfl | (simp; done) | (simp_all; done) | (simp_all; omega))
      · have b2 : (ze != 0) = true := by simp [h2]
        clear h2 hRv
        repeat' (first | refine ZV ?_ | refine ZB tm sp ?_ | refine ZH (fun hb => ?_) (fun hb => ?_) | refine ZJ (by conv => lhs; simp [b1, b2]) ?_ | refine ZA (fun hb => ?_) (fun hb => ?_))
        all_goals (first | refine Ret.dataE rfl (by conv => lhs; simp) (by conv => lhs; simp) (by first | rfl | simp [inlT, inlV]) ?_ | refine RetNf.dataE rfl (by conv => lhs; simp) (by conv => lhs; simp) (by first | rfl | simp [inlT, inlV]) ?_)
        all_goals (first | rfl | (simp; done) | (simp_all; done) | (simp_all; omega))
end Go.Abs.Nz
namespace Go.Abs.Nz
open Go Go.Proofs Go.Abs
set_option maxRecDepth 100000
set_option maxHeartbeats 4000000
set_option linter.unusedSimpArgs false
set_option linter.unusedVariables false
abbrev Ops := {l : List UInt8 // l.length ≤ maxLen}
theorem shOps {x : AV} (h : TyV Tryz.prog 9 25 x) : ∃ l : Ops, x = .list 1 (l.1.map byte) := by
  simp only [TyV, TyR, Tryz.underlying25, Tryz.underlying5, vc5, List.cons.injEq, and_true] at h
  obtain ⟨rows, rfl, hl, h⟩ := h
  have : ∀ rows : List (List AV), (∀ row ∈ rows, ∃ m, row = [AV.int .u8 m] ∧ (Lit.int .u8 m).wf = true) → ∃ l : List UInt8, rows = l.map byte := by
    intro rows
    induction rows with
    | nil => exact fun _ => ⟨[], rfl⟩
    | cons r rs ih =>
      intro h
      obtain ⟨l, hl⟩ := ih fun row hr => h row (by simp [hr])
      obtain ⟨m, rfl, hm⟩ := h r (by simp)
      simp only [Lit.wf, Bool.and_eq_true, decide_eq_true_eq] at hm
      have h1 : (0 : Int) ≤ m := hm.1
      have h2 : m ≤ 255 := hm.2
      refine ⟨UInt8.ofNat m.toNat :: l, ?_⟩
      rw [List.map_cons, hl]
      congr 1
      simp only [byte, UInt8.toNat_ofNat', List.cons.injEq, AV.int.injEq, true_and, and_true]
      omega
  obtain ⟨l, rfl⟩ := this rows h
  exact ⟨⟨l, by simpa using hl⟩, rfl⟩
end Go.Abs.Nz
