/- Going on with a queue: the walk. Conditions: none. -/
import Derived.Test.YtlakgienobmpbaaGreatNz5
import Derived.Test.YtlakgienobmpbaaGreatAb6
namespace Go.Abs.Nz
open Go Go.Proofs Go.Abs
set_option maxRecDepth 100000
set_option maxHeartbeats 4000000
set_option linter.unusedSimpArgs false
set_option linter.unusedVariables false
attribute [local simp] instA slice3A slice3C
attribute [-simp] mkv
attribute [local simp] mkv_hd hdA_cons hdA_ob hdA_ob'
theorem go_head {e0 : En} {nd : Int} {Q : AS → Prop} {c : Code} {fs : List Fr} {ts : NL AV} (x : GoI e0 nd) (hw : ∀ h', lk h' 0 = some { gen := 0, kind := 2, elem := 117, size := 43, inl := false, rows := [.int .u64 x.e.id :: .int .i64 x.e.owner :: .list 1 (x.e.readers.map iC) :: (x.e.obj.cells ++ [.list 1 (x.e.waiting.map iC), .list 2 (x.e.queue.map askC), .int .i64 nd, .sl 20000 x.g 0 x.ms.length])] } → lk h' 20000 = some (msgB x.g x.ms) → W Tryz.prog Q c fs ⟨95, ts, h'⟩) : W Tryz.prog Q c fs ⟨95, ts, x.h⟩ := by
  obtain ⟨e, ms, g, RC, row, h, hid, h1, h2, h3, h4, res, msg, hr, hn, hR, hM⟩ := x
  dsimp only at hw ⊢
  obtain ⟨L, hL⟩ : ∃ L, leafs Tryz.prog 117 = L := ⟨_, rfl⟩
  rw [hL] at hn
  refine W.nrmB 0 L hr rfl ?_
  dsimp only
  rw [List.map_cons, List.map_nil, hn]
  have hM' : ∀ b, lk (st h 0 b) 20000 = some (msgB g ms) := fun b => by rw [lk_st, if_neg (by decide)]; exact hM
  rcases hR with rfl | ⟨g', rfl, hb⟩
  · exact hw _ (by rw [lk_st, if_pos rfl]) (hM' _)
  · have tk : List.take e.readers.length (e.readers.map iC) = e.readers.map iC := List.take_of_length_le (by simp)
    refine W.frzC 0 0 2 (by rw [lk_st, if_pos rfl]) rfl rfl rfl rfl (by conv => lhs; simp [frqT, frqV, frq1, frz1, AP.run, lk_st, hb, ixiBg, tk]) (by rw [lk_st, if_neg (by decide), lk_st, if_pos rfl]) ?_
    exact hw _ (by rw [lk_st, if_pos rfl]; rfl) (by rw [lk_st, if_neg (by decide), lk_st, if_neg (by decide)]; exact hM' _)
theorem go_ok : FnC Tryz.prog 115 goS := by
  refine FnC.walkM 115 (fn := Tryz.f115) Tryz.func115 rfl (by kernel_rfl) (fun x b hb => by simp at hb; rw [hb]; rfl) fun x => ?_
  obtain ⟨e0, nd, k1, k2, k3⟩ := x
  have sp0 : ∀ q ∈ ([] : NL Spec), FnC Tryz.prog q.1 q.2.fn := by simp
  change W _ (RetM _ _ 1 (.tup []) [sesB (Dir.goOn zOb e0).2 nd (.sl 1 0 0 (goM e0 nd).length), msgB 0 (goM e0 nd)]) _ _ ⟨95, [(0, .ptr 0 0 0 0)], [(0, { gen := 0, kind := 2, elem := 117, size := 43, inl := false, rows := [.int .u64 e0.id :: .int .i64 e0.owner :: .list 1 (e0.readers.map iC) :: (e0.obj.cells ++ [.list 1 (e0.waiting.map iC), .list 2 (e0.queue.map askC), .int .i64 nd, .nils])] })]⟩
  refine W.phR 0 0 42 20000 46 45 true rfl rfl rfl rfl (by simp) rfl (by decide) ?_
  refine W.scope rfl ?_
  refine W.seq rfl ?_
  refine W.label rfl ?_
  try refine ZT ?_
  refine W.loop rfl (ι := GoI e0 nd) (fun x => ⟨95, [(0, .ptr 0 0 0 0)], x.h⟩) (fun x => x.e.queue.length)
    ⟨e0, [], 0, .list 1 (e0.readers.map iC), .int .u64 e0.id :: .int .i64 e0.owner :: .list 1 (e0.readers.map iC) :: (e0.obj.cells ++ [.list 1 (e0.waiting.map iC), .list 2 (e0.queue.map askC), .int .i64 nd, .sl 20000 0 0 0]), _, rfl, k1, by omega, k3, by simp; omega, rfl, rfl, by simp [lk_st, lk], ses_nrm e0 nd _ 0 0 (rc_list _), .inl rfl, by simp [lk_st, lk, msgB]⟩ (AS.le_of rfl ⟨rfl, trivial⟩ (fun _ => rfl)) ?_
  intro x
  refine go_head x fun h hr hM => ?_
  obtain ⟨e, ms, g, RC, row, hh, hid, h1, h2, h3, h4, res, msg, hr0, hn0, hR0, hM0⟩ := x
  dsimp only at hr hM ⊢
  clear hr0 hn0 hR0 hM0
  have capq : e.queue.length ≤ 9223372036854775807 := by omega
  have capw : e.waiting.length ≤ 9223372036854775807 := by omega
  -- what is left when it stops here
  by_cases hw : e.waiting = []
  · cases hq : e.queue with
    | nil =>
      have w0 : ((e.waiting.length : Int) == 0) = true := by simp [hw]
      have w1 : ¬ (0 : Int) < e.queue.length := by simp [hq]
      have w2 : e.queue.length = 0 := by simp [hq]
      have gw := go_nil hq
      rw [gw] at res
      have hres : (Dir.goOn zOb e0).2 = e := by rw [res]
      have hmsg : goM e0 nd = ms := by rw [msg, goM, gw]; simp
      rw [hres, hmsg]
      repeat' (first | refine ZV ?_ | refine ZB tm no_specs ?_ | refine ZH (fun hb => ?_) (fun hb => ?_) | refine ZJ (by conv => lhs; simp [hr, w0, w1, w2, capw, capq]) ?_ | refine ZA (fun hb => ?_) (fun hb => ?_))
      all_goals (
        refine retM2_ok false [0, 20000] [0, 0] ?_
        simp [retM2, movedOK, oldOK, frqT, frqV, frqVs, frqL, frq1, expG, expB3, renB, AV.ren, renL, List.range, List.range.loop, resVs, resV, pack, List.zipWith, List.idxOf?, List.findIdx?, List.findIdx?.go, sesB, msgB, hr, hM])
    | cons p q =>
      obtain ⟨a, m⟩ := p
      obtain ⟨id, ow, rd, o, wt, qq⟩ := e
      dsimp only at hw hq hid h1 h2 h3 h4 hr capq capw
      subst hw hq
      have w3 : q.length + 1 ≤ 9223372036854775807 := by simp only [List.length_cons] at h1; omega
      obtain ⟨SD, hSD⟩ : ∃ S, S = dli (g1V a m) := ⟨_, rfl⟩
      have sp : ∀ x ∈ ([(120, ⟨3, cloneC 3 1 8⟩), (80, ⟨3, SD⟩), (151, ⟨3, demS⟩), (152, ⟨3, graS⟩), (153, ⟨3, sortS⟩)] : NL Spec), FnC Tryz.prog x.1 x.2.fn := by
        simp only [List.mem_cons, List.not_mem_nil, or_false]
        rintro x (rfl | rfl | rfl | rfl | rfl)
        · exact clone120_ok
        · rw [hSD]; exact dli_ok _
        · exact dem_ok
        · exact gra_ok
        · exact sort_ok
      have c1 := clnI rd (by omega)
      have c2 : SD [.sl 0 0 0 rd.length, .fn (.func 150) [] [.ptr 1 0 0 0]] [{ gen := 0, kind := 2, elem := 3, size := 1, inl := true, rows := rd.map iC }, { gen := 0, kind := 2, elem := 119, size := 2, inl := false, rows := [[.int .i64 a, .int .i64 m]] }] = some (.sl 0 1 0 (Dir.oth rd a).length, [{ gen := 1, kind := 2, elem := 3, size := 1, inl := true, rows := (Dir.oth rd a).map iC }, { gen := 0, kind := 2, elem := 119, size := 2, inl := false, rows := [[.int .i64 a, .int .i64 m]] }]) := by rw [hSD]; exact dli_eq (g1V a m) rd (by omega)
      clear hSD
      have hM2 := hM
      unfold msgB at hM2
      have n1 := Dir.asc_oth h3 a
      have ha : askC (a, m) = [.int .i64 a, .int .i64 m] := rfl
      simp only [List.map_cons, List.map_nil, ha] at hr
      repeat' (first | refine ZV ?_ | refine ZB (id := 0) tm sp ?_ | refine ZB (id := 1) tm sp ?_ | refine ZB (id := 2) tm sp ?_ | refine ZH (fun hb => ?_) (fun hb => ?_) | refine ZJ (by conv => lhs; simp [hr, w3, c1, c2]) ?_ | refine ZA (fun hb => ?_) (fun hb => ?_))
      by_cases ho : ow = -1
      · subst ho
        by_cases hm : m = 1
        · subst hm
          have gr := go_read (e := (⟨id, -1, rd, o, [], (a, 1) :: q⟩ : En)) (a := a) (q := q) rfl rfl rfl
          have hna : a ∉ Dir.oth rd a := by rw [Dir.mem_oth]; simp
          obtain ⟨ms2, hms2⟩ : ∃ ms2, ms ++ [graM nd id a 1 o] = ms2 := ⟨_, rfl⟩
          have hl2 : ms2.length = ms.length + 1 := by rw [← hms2]; simp
          have c3 : graS [.ptr 0 0 0 0] [{ gen := 0, kind := 2, elem := 117, size := 43, inl := false, rows := [.int .u64 id :: .int .i64 (-1) :: .list 1 (rd.map iC) :: (o.cells ++ [.list 1 [], .list 2 ([.int .i64 a, .int .i64 1] :: q.map askC), .int .i64 nd, .sl 1 0 0 ms.length])] }, { gen := 0, kind := 2, elem := 46, size := 45, inl := true, rows := ms.map Msg.v }] = some (.tup [], [{ gen := 0, kind := 2, elem := 117, size := 43, inl := false, rows := [.int .u64 id :: .int .i64 (-1) :: .list 1 (rd.map iC) :: (o.cells ++ [.list 1 [], .list 2 (q.map askC), .int .i64 nd, .sl 1 1 0 (ms.length + 1)])] }, { gen := 1, kind := 2, elem := 46, size := 45, inl := true, rows := ms2.map Msg.v }]) := by
            rw [← hms2]
            exact graS_eq (⟨⟨id, -1, rd, o, [], (a, 1) :: q⟩, nd, ms, a, 1, q, rfl, by dsimp only; omega, by omega⟩ : Gr)
          obtain ⟨R, hR⟩ : ∃ R, Dir.oth rd a ++ [a] = R := ⟨_, rfl⟩
          have hRl : R.length = (Dir.oth rd a).length + 1 := by rw [← hR]; simp
          have hol : (Dir.oth rd a).length ≤ rd.length := List.length_filter_le _ _
          have hRs : srt R = Dir.ins a (Dir.oth rd a) := by rw [← hR]; exact srt_ins n1 hna
          have hRm : (Dir.oth rd a).map iC ++ [[.int .i64 a]] = R.map iC := by rw [← hR]; simp [iC]
          simp only [List.length_cons] at h1 h4
          have c4 := sortS_eq R (by omega) (by omega)
          rw [hRs, hRl] at c4
          simp only [ixiB] at c4
          generalize Dir.oth rd a = N at *
          have y1 : N.length ≤ maxLen := by simp only [maxLen]; omega
          have y2 : (N.length + 1) * 8 ≤ 140737488355328 := by omega
          have y3 : N.length + 1 ≤ maxLen := by simp only [maxLen]; omega
          have y4 : N.length ≤ 9223372036854775807 := by omega
          have tN : List.take N.length (N.map iC) = N.map iC := List.take_of_length_le (by simp)
          have fN : firstRows N.length (N.map iC) = N.map iC := first_all (by simp)
          repeat' (first | refine ZV ?_ | refine ZB tm sp ?_ | refine ZH (fun hb => ?_) (fun hb => ?_) | refine ZJ (by conv => lhs; simp [hr, hM2, c3, c4, y1, y2, y3, y4, tN, m1, hRm, fN]) ?_ | refine ZA (fun hb => ?_) (fun hb => ?_))
          have hIl : (Dir.ins a N).length = N.length + 1 := by rw [← hRs, srt, List.length_mergeSort, hRl]
          rw [← hl2]
          refine ⟨⟨⟨id, -1, Dir.ins a N, o, [], q⟩, ms2, g + 1, .sl 528 (((lk h 528).getD { }).gen + 1 + 1 + 1) 0 (N.length + 1), _, _, hid, by dsimp only; omega, by simp, Dir.asc_ins n1 hna, by dsimp only; omega, by rw [res, gr], by rw [msg, goM, gr, ← hms2, List.append_assoc]; rfl, by simp [lk_st], ses_nrm (⟨id, -1, Dir.ins a N, o, [], q⟩ : En) nd _ _ _ (rc_sl _ _ _ _), .inr ⟨_, by rw [hIl], by simp [lk_st, ixiBg]⟩, by simp [lk_st, msgB]⟩, by simp, AS.le_of rfl ⟨rfl, trivial⟩ (fun _ => rfl)⟩
        · have m1' : (m == 1) = false := by simp [hm]
          by_cases hd : Dir.oth rd a = []
          · have gr := go_write (e := (⟨id, -1, rd, o, [], (a, m) :: q⟩ : En)) (a := a) (m := m) (q := q) rfl rfl rfl hm hd
            obtain ⟨ms2, hms2⟩ : ∃ ms2, ms ++ [graM nd id a m o] = ms2 := ⟨_, rfl⟩
            have hl2 : ms2.length = ms.length + 1 := by rw [← hms2]; simp
            have c3 : graS [.ptr 0 0 0 0] [{ gen := 0, kind := 2, elem := 117, size := 43, inl := false, rows := [.int .u64 id :: .int .i64 (-1) :: .list 1 (rd.map iC) :: (o.cells ++ [.list 1 [], .list 2 ([.int .i64 a, .int .i64 m] :: q.map askC), .int .i64 nd, .sl 1 0 0 ms.length])] }, { gen := 0, kind := 2, elem := 46, size := 45, inl := true, rows := ms.map Msg.v }] = some (.tup [], [{ gen := 0, kind := 2, elem := 117, size := 43, inl := false, rows := [.int .u64 id :: .int .i64 (-1) :: .list 1 (rd.map iC) :: (o.cells ++ [.list 1 [], .list 2 (q.map askC), .int .i64 nd, .sl 1 1 0 (ms.length + 1)])] }, { gen := 1, kind := 2, elem := 46, size := 45, inl := true, rows := ms2.map Msg.v }]) := by
              rw [← hms2]
              exact graS_eq (⟨⟨id, -1, rd, o, [], (a, m) :: q⟩, nd, ms, a, m, q, rfl, by dsimp only; omega, by omega⟩ : Gr)
            simp only [List.length_cons] at h1 h4
            rw [hd]
            repeat' (first | refine ZV ?_ | refine ZB tm sp ?_ | refine ZH (fun hb => ?_) (fun hb => ?_) | refine ZJ (by conv => lhs; simp [hr, hM2, c3, m1', m1]) ?_ | refine ZA (fun hb => ?_) (fun hb => ?_))
            rw [← hl2]
            refine ⟨⟨⟨id, a, [], zOb, [], q⟩, ms2, g + 1, .list 1 ([].map iC), _, _, hid, by dsimp only; simp only [List.length_nil]; omega, by simp, List.Pairwise.nil, by dsimp only; omega, by rw [res, gr], by rw [msg, goM, gr, ← hms2, List.append_assoc]; rfl, by simp [lk_st]; rfl, ses_nrm0 id a nd [] q (g + 1) ms2.length, .inl rfl, by simp [lk_st, msgB]⟩, by simp, AS.le_of rfl ⟨rfl, trivial⟩ (fun _ => rfl)⟩
          · have gd := go_dem (e := (⟨id, -1, rd, o, [], (a, m) :: q⟩ : En)) (a := a) (m := m) (q := q) rfl rfl rfl hm hd
            have hol : (Dir.oth rd a).length ≤ rd.length := List.length_filter_le _ _
            have hpos : 0 < (Dir.oth rd a).length := List.length_pos_iff.2 hd
            rw [gd] at res
            dsimp only at res
            have hres : (Dir.goOn zOb e0).2 = ⟨id, -1, rd, o, Dir.oth rd a, (a, m) :: q⟩ := by rw [res]
            have hmsg : goM e0 nd = ms ++ (Dir.oth rd a).map (revM nd id) := by rw [msg, goM, gd, List.map_map]; rfl
            rw [hres, hmsg]
            clear gd res msg hres hmsg
            generalize Dir.oth rd a = N at *
            obtain ⟨ms2, hms2⟩ : ∃ ms2, ms ++ N.map (revM nd id) = ms2 := ⟨_, rfl⟩
            have hl2 : ms2.length = ms.length + N.length := by rw [← hms2]; simp
            rw [hms2]
            have c3 : demS [.ptr 0 0 0 0, .sl 1 0 0 N.length] [{ gen := 0, kind := 2, elem := 117, size := 43, inl := false, rows := [.int .u64 id :: .int .i64 (-1) :: .list 1 (rd.map iC) :: (o.cells ++ [.list 1 [], .list 2 ([.int .i64 a, .int .i64 m] :: q.map askC), .int .i64 nd, .sl 2 0 0 ms.length])] }, { gen := 0, kind := 2, elem := 3, size := 1, inl := true, rows := N.map iC }, { gen := 0, kind := 2, elem := 46, size := 45, inl := true, rows := ms.map Msg.v }] = some (.tup [], [{ gen := 0, kind := 2, elem := 117, size := 43, inl := false, rows := [.int .u64 id :: .int .i64 (-1) :: .list 1 (rd.map iC) :: (o.cells ++ [.list 1 (N.map iC), .list 2 ([.int .i64 a, .int .i64 m] :: q.map askC), .int .i64 nd, .sl 2 1 0 (ms.length + N.length)])] }, { gen := 0, kind := 1, elem := 3, size := 1, inl := true, rows := N.map iC }, { gen := 1, kind := 2, elem := 46, size := 45, inl := true, rows := ms2.map Msg.v }]) := by
              rw [← hms2]
              exact demS_eq (⟨⟨id, -1, rd, o, [], (a, m) :: q⟩, nd, ms, N, hpos, by simp only [List.length_cons] at h1; omega, by omega⟩ : De)
            have p1 : (0 : Int) < N.length := by omega
            have p2 : N.length ≤ 9223372036854775807 := by simp only [List.length_cons] at h1; omega
            have p3 : ¬ N.length = 0 := by omega
            repeat' (first | refine ZV ?_ | refine ZB tm sp ?_ | refine ZH (fun hb => ?_) (fun hb => ?_) | refine ZJ (by conv => lhs; simp [hr, hM2, c3, m1', p1, p2, p3, hpos]) ?_ | refine ZA (fun hb => ?_) (fun hb => ?_))
            all_goals (
              refine retM2_ok false [0, 20000] [0, 0] ?_
              simp [retM2, movedOK, oldOK, frqT, frqV, frqVs, frqL, frq1, expG, expB3, renB, AV.ren, renL, List.range, List.range.loop, resVs, resV, pack, List.zipWith, List.idxOf?, List.findIdx?, List.findIdx?.go, sesB, msgB, lk_st, hl2, ha])
      · have go := go_own (e := (⟨id, ow, rd, o, [], (a, m) :: q⟩ : En)) (a := a) (m := m) (q := q) rfl rfl ho
        rw [go] at res
        have hres : (Dir.goOn zOb e0).2 = ⟨id, ow, rd, o, [ow], (a, m) :: q⟩ := by rw [res]
        have hmsg : goM e0 nd = ms ++ [revM nd id ow] := by rw [msg, goM, go]; rfl
        rw [hres, hmsg]
        obtain ⟨ms2, hms2⟩ : ∃ ms2, ms ++ [revM nd id ow] = ms2 := ⟨_, rfl⟩
        have hl2 : ms2.length = ms.length + 1 := by rw [← hms2]; simp
        rw [hms2]
        have c3 : demS [.ptr 0 0 0 0, .sl 1 0 0 1] [{ gen := 0, kind := 2, elem := 117, size := 43, inl := false, rows := [.int .u64 id :: .int .i64 ow :: .list 1 (rd.map iC) :: (o.cells ++ [.list 1 [], .list 2 ([.int .i64 a, .int .i64 m] :: q.map askC), .int .i64 nd, .sl 2 0 0 ms.length])] }, { gen := 0, kind := 2, elem := 3, size := 1, inl := true, rows := [[.int .i64 ow]] }, { gen := 0, kind := 2, elem := 46, size := 45, inl := true, rows := ms.map Msg.v }] = some (.tup [], [{ gen := 0, kind := 2, elem := 117, size := 43, inl := false, rows := [.int .u64 id :: .int .i64 ow :: .list 1 (rd.map iC) :: (o.cells ++ [.list 1 [[.int .i64 ow]], .list 2 ([.int .i64 a, .int .i64 m] :: q.map askC), .int .i64 nd, .sl 2 1 0 (ms.length + 1)])] }, { gen := 0, kind := 1, elem := 3, size := 1, inl := true, rows := [[.int .i64 ow]] }, { gen := 1, kind := 2, elem := 46, size := 45, inl := true, rows := ms2.map Msg.v }]) := by
          rw [← hms2]
          exact demS_eq (⟨⟨id, ow, rd, o, [], (a, m) :: q⟩, nd, ms, [ow], by simp, by simp, by omega⟩ : De)
        have ho2 : (ow != -1) = true := by simp [ho]
        repeat' (first | refine ZV ?_ | refine ZB tm sp ?_ | refine ZH (fun hb => ?_) (fun hb => ?_) | refine ZJ (by conv => lhs; simp [hr, hM2, c3, ho2, m1]) ?_ | refine ZA (fun hb => ?_) (fun hb => ?_))
        refine retM2_ok false [0, 20000] [0, 0] ?_
        simp [retM2, movedOK, oldOK, frqT, frqV, frqVs, frqL, frq1, expG, expB3, renB, AV.ren, renL, List.range, List.range.loop, resVs, resV, pack, List.zipWith, List.idxOf?, List.findIdx?, List.findIdx?.go, sesB, msgB, lk_st, hl2, iC, askC]
  · have w0 : ((e.waiting.length : Int) == 0) = false := by
      have := List.length_pos_iff.2 hw
      simp; omega
    have gw := go_wait hw
    rw [gw] at res
    have hres : (Dir.goOn zOb e0).2 = e := by rw [res]
    have hmsg : goM e0 nd = ms := by rw [msg, goM, gw]; simp
    rw [hres, hmsg]
    repeat' (first | refine ZV ?_ | refine ZB tm no_specs ?_ | refine ZH (fun hb => ?_) (fun hb => ?_) | refine ZJ (by conv => lhs; simp [hr, w0, capw]) ?_ | refine ZA (fun hb => ?_) (fun hb => ?_))
    refine retM2_ok false [0, 20000] [0, 0] ?_
    simp [retM2, movedOK, oldOK, frqT, frqV, frqVs, frqL, frq1, expG, expB3, renB, AV.ren, renL, List.range, List.range.loop, resVs, resV, pack, List.zipWith, List.idxOf?, List.findIdx?, List.findIdx?.go, sesB, msgB, hr, hM]
end Go.Abs.Nz
namespace Go.Abs.Nz
open Go Go.Proofs Go.Abs
set_option maxRecDepth 100000
set_option maxHeartbeats 4000000
set_option linter.unusedSimpArgs false
set_option linter.unusedVariables false
attribute [local simp] instA slice3A slice3C
attribute [-simp] mkv
attribute [local simp] mkv_hd hdA_cons hdA_ob hdA_ob'
theorem ovlB117 : ovlB Tryz.prog 157 = true := by kernel_rfl
theorem ovlT117 : ovlT Tryz.prog 157 = some (69, 41) := by kernel_rfl
theorem ins_grow117 {α : Type} {l : List α} {n i : Nat} {t z : α} (hn : l.length = n) (hi : i ≤ l.length) :
    List.take (i + 1) (List.take i l ++ t :: List.replicate (n - i) z) ++ (List.take (n - i) (List.take (n - i) (List.drop i l)) ++ List.drop (i + 1 + (n - i)) (List.take i l ++ t :: List.replicate (n - i) z)) = List.take i l ++ t :: List.drop i l := by
  subst hn
  have h1 : (List.take i l).length = i := by rw [List.length_take]; omega
  have h2 : (List.drop i l).length = l.length - i := List.length_drop
  generalize List.take i l = A at h1 ⊢
  generalize List.drop i l = B at h2 ⊢
  subst h1
  rw [List.take_append, List.drop_append, List.take_of_length_le (Nat.le_succ _), show A.length + 1 - A.length = 1 from by omega, List.take_succ_cons, List.take_zero,
    List.drop_of_length_le (by omega), List.nil_append, show A.length + 1 + (l.length - A.length) - A.length = (l.length - A.length) + 1 from by omega, List.drop_succ_cons, List.drop_of_length_le (by simp),
    List.append_nil, List.take_take, Nat.min_self, List.take_of_length_le (by omega), List.append_assoc]
  rfl
theorem ins_place117 {α : Type} {l : List α} {i : Nat} {X : List α} (hi : i ≤ l.length) : List.take i (List.take (i + 1) l ++ List.drop i l) ++ X = List.take i l ++ X := by
  congr 1
  rw [List.take_append, List.take_take, Nat.min_eq_left (Nat.le_succ i), show i - (List.take (i + 1) l).length = 0 from by rw [List.length_take]; omega, List.take_zero, List.append_nil]
theorem insert117_ok : FnC Tryz.prog 117 (insertC 85 41 552) := by
  refine FnC.ofV 117 (fn := Tryz.f117) Tryz.func117 rfl (by kernel_rfl) fun args B r B' hS => ?_
  unfold insertC at hS
  split at hS
  · rename_i len i b c
    split at hS
    · rename_i hc
      obtain ⟨hb, hcc, rfl, k1, k2, k3, k4, k5⟩ := hc
      simp only [Option.some.injEq, Prod.mk.injEq] at hS
      obtain ⟨rfl, rfl⟩ := hS
      rw [okB_eq hb, okB_eq hcc]
      generalize b.rows = l at k2 k3 k5 ⊢
      generalize c.rows = cr at k1 ⊢
      obtain ⟨t, rfl⟩ : ∃ t, cr = [t] := List.length_eq_one_iff.1 k1
      obtain ⟨i, rfl⟩ : ∃ n : Nat, i = n := ⟨i.toNat, by omega⟩
      have hi : i ≤ l.length := by omega
      simp only [Int.toNat_natCast]
      refine ⟨by simp, ?_⟩
      change V _ (RetM _ _ 2 _ _) _ _ ⟨95, [(0, .sl 0 0 0 l.length), (1, .int .i64 (i : Nat)), (2, .sl 1 0 0 1)], [(0, { gen := 0, kind := 2, elem := 85, size := 41, inl := true, rows := l }), (1, { gen := 0, kind := 2, elem := 85, size := 41, inl := true, rows := [t] })]⟩
      have c1 : l.length + 1 ≤ 9223372036854775807 := by omega
      have c2 : l.length ≤ 9223372036854775807 := by omega
      have c3 : l.length * 552 ≤ 140737488355328 := by omega
      have c4 : (l.length + 1) * 552 ≤ 140737488355328 := k2
      have m1' : (1 : Nat) ≤ maxLen := by decide
      try simp only [Nat.mul_one] at c3 c4
      by_cases hin : i = l.length
      · subst hin
        clear hi k3 k4 k5 k2
        repeat (first | refine NV.seq ?_ | refine NV.blk ?_ | refine V.seq rfl ?_ | refine V.block rfl ?_ | refine V.skip rfl ?_ | refine V.ret rfl ?_ | refine NV.nil ?_ | refine NV.loop ?_ | refine V.exit rfl ?_ | refine XV.seq ?_ | refine XV.loop ?_ | refine XV.hit ?_ | refine XV.pass (by decide) ?_ | refine V.condT rfl (by rfl) ?_ | refine V.condF rfl (by rfl) ?_ | refine V.region tm no_specs rfl (by conv => lhs; simp [c1, c2, c3, c4, maxLen, m1']) fun _ => ?_ | refine V.regionD tm no_specs rfl (by conv => lhs; simp [c1, c2, c3, c4, maxLen, m1']) (by conv => lhs; simp) (by kernel_rfl) fun _ => ?_)
        refine retM2_ok false [0, 1] [1, 0] ?_
        simp [retM2, movedOK, oldOK, frqT, frqV, frqVs, frqL, frq1, expG, expB3, renB, AV.ren, renL, List.range, List.range.loop, resVs, resV, pack, List.zipWith, List.idxOf?, List.findIdx?, List.findIdx?.go, rowB]
      · have hlt : i < l.length := by omega
        have e1 : ((i : Int) == (l.length : Int)) = false := by simpa using fun h => hin (by omega)
        refine V.caps (t := 0) rfl rfl rfl fun cap hc1 hc2 => ?_
        have hic : i ≤ cap := by omega
        have hwi : IntKind.i64.wrap ((i : Int) + 1) = ((i + 1 : Nat) : Int) := by rw [show (i : Int) + 1 = ((i + 1 : Nat) : Int) from by omega]; exact w64 (by omega) (by omega)
        have hw : IntKind.i64.wrap ((l.length : Int) + 1) = (l.length : Int) + 1 := w64 (by omega) (by omega)
        have hw2 : IntKind.i64.wrap ((l.length : Int) + 1 - i) = ((l.length + 1 - i : Nat) : Int) := by rw [show (l.length : Int) + 1 - i = ((l.length + 1 - i : Nat) : Int) from by omega]; exact w64 (by omega) (by omega)
        by_cases hcap : cap < l.length + 1
        · have hcap' : (cap : Int) < l.length + 1 := by omega
          have n1 : i + (l.length + 1 - i) = l.length + 1 := by omega
          have n3 : i ≤ l.length + 1 := by omega
          have n4 : 0 < l.length + 1 - i := by omega
          have n5 : min i l.length = i := by omega
          have n6 : List.take (l.length + 1 - i) [t] = [t] := List.take_of_length_le (by simp; omega)
          have n7 : min (l.length + 1 - i) 1 = 1 := by omega
          have n8 : ∀ z, List.drop (i + 1) (List.take i l ++ List.replicate (l.length + 1 - i) z) = List.replicate (l.length - i) z := fun z => by
            rw [List.drop_append, List.drop_of_length_le (by simp; omega)]
            simp only [List.length_take, n5, List.nil_append, List.drop_replicate]
            congr 1
            omega
          have n9 : l.length ≤ i + (l.length - i) := by omega
          have n10 : (0 : Int) ≤ (i : Int) + 1 := by omega
          clear k3 k4 k5 k2 hin
          repeat (first | refine NV.seq ?_ | refine NV.blk ?_ | refine V.seq rfl ?_ | refine V.block rfl ?_ | refine V.skip rfl ?_ | refine V.ret rfl ?_ | refine NV.nil ?_ | refine NV.loop ?_ | refine V.exit rfl ?_ | refine XV.seq ?_ | refine XV.loop ?_ | refine XV.hit ?_ | refine XV.pass (by decide) ?_ | refine V.condT rfl (by rfl) ?_ | refine V.condF rfl (by rfl) ?_ | refine V.region tm no_specs rfl (by conv => lhs; simp [c1, c2, c3, c4, maxLen, e1, hi, hc1, hic, hcap, hcap', hw, hw2, n1, n3, n4, n5, n6, n7, n8, hwi, n9, n10]) fun _ => ?_ | refine V.regionD tm no_specs rfl (by conv => lhs; simp [c1, c2, c3, c4, maxLen, e1, hi, hc1, hic, hcap, hcap', hw, hw2, n1, n3, n4, n5, n6, n7, n8, hwi, n9, n10]) (by conv => lhs; simp) (by kernel_rfl) fun _ => ?_)
          refine retM2_ok false [656, 1] [1, 0] ?_
          simp [retM2, movedOK, oldOK, frqT, frqV, frqVs, frqL, frq1, expG, expB3, renB, AV.ren, renL, List.range, List.range.loop, resVs, resV, pack, List.zipWith, List.idxOf?, List.findIdx?, List.findIdx?.go, rowB]
          exact ins_grow117 (by simp) (by simpa using hi)
        · have hcap' : ¬ (cap : Int) < l.length + 1 := by omega
          have hcap2 : l.length + 1 ≤ cap := by omega
          have n3 : i ≤ l.length + 1 := by omega
          have n9 : l.length ≤ i + (l.length - i) := by omega
          have n10 : (0 : Int) ≤ (i : Int) + 1 := by omega
          have hw3 : (0 : Int) ≤ (l.length : Int) + 1 := by omega
          have n12 : i + 1 ≤ l.length := hlt
          have n11 : min (l.length - i) (l.length + 1 - i) = l.length - i := by omega
          have n6 : List.take (l.length + 1 - i) [t] = [t] := List.take_of_length_le (by simp; omega)
          have n7 : min (l.length + 1 - i) 1 = 1 := by omega
          have n13 : List.take (l.length - i) (List.take (l.length - i) (List.drop i l)) = List.drop i l := by
            rw [List.take_take, Nat.min_self, List.take_of_length_le (by simp)]
          have n14 : List.drop (i + 1 + (l.length - i)) l = [] := List.drop_of_length_le (by omega)
          have n15 : i ≤ i + 1 + (l.length - i) := by omega
          clear k3 k4 k5 k2 hin
          repeat (first | refine NV.seq ?_ | refine NV.blk ?_ | refine V.seq rfl ?_ | refine V.block rfl ?_ | refine V.skip rfl ?_ | refine NV.nil ?_ | refine NV.loop ?_ | refine V.exit rfl ?_ | refine XV.seq ?_ | refine XV.loop ?_ | refine XV.hit ?_ | refine XV.pass (by decide) ?_ | refine V.condT rfl (by rfl) ?_ | refine V.condF rfl (by rfl) ?_ | refine V.region tm no_specs rfl (by conv => lhs; simp [c1, c2, c3, c4, maxLen, e1, hi, hc1, hic, hcap, hcap', hw, hw2, n3, hwi, n9, n10, hcap2, hw3, ovlB117, ovlT117, n11, n12, n6, n7, n13, n14, n15]) fun _ => ?_ | refine V.regionD tm no_specs rfl (by conv => lhs; simp [c1, c2, c3, c4, maxLen, e1, hi, hc1, hic, hcap, hcap', hw, hw2, n3, hwi, n9, n10, hcap2, hw3, ovlB117, ovlT117, n11, n12, n6, n7, n13, n14, n15]) (by conv => lhs; simp) (by kernel_rfl) fun _ => ?_)
          refine V.uncap (t := 6) rfl ?_
          repeat (first | refine NV.seq ?_ | refine NV.blk ?_ | refine V.seq rfl ?_ | refine V.block rfl ?_ | refine V.skip rfl ?_ | refine V.ret rfl ?_ | refine NV.nil ?_ | refine NV.loop ?_ | refine V.exit rfl ?_ | refine XV.seq ?_ | refine XV.loop ?_ | refine XV.hit ?_ | refine XV.pass (by decide) ?_ | refine V.condT rfl (by rfl) ?_ | refine V.condF rfl (by rfl) ?_ | refine V.region tm no_specs rfl (by conv => lhs; simp) fun _ => ?_ | refine V.regionD tm no_specs rfl (by conv => lhs; simp) (by conv => lhs; simp) (by kernel_rfl) fun _ => ?_)
          refine retM2_ok false [0, 1] [1, 0] ?_
          simp [retM2, movedOK, oldOK, frqT, frqV, frqVs, frqL, frq1, expG, expB3, renB, AV.ren, renL, List.range, List.range.loop, resVs, resV, pack, List.zipWith, List.idxOf?, List.findIdx?, List.findIdx?.go, rowB]
          simpa using ins_place117 (l := l) (i := i) (X := []) hi
    · cases hS
  · cases hS
noncomputable def sr1R (t : En) (y : Int) : AV := .int .i64 (cmpI t.id y)
noncomputable def sr1S : SpecFn := mkS (fun p : En × Int => [.agg (enC p.1), .int .u64 p.2]) fun p => (sr1R p.1 p.2, [])
theorem sr1_eq (t1 t2 : Int) (tr : List Int) (to : Ob) (tw : List Int) (tq : List (Int × Int)) (y : Int) : sr1S [.agg (.int .u64 t1 :: .int .i64 t2 :: .list 1 (tr.map iC) :: (to.cells ++ [.list 1 (tw.map iC), .list 2 (tq.map askC)])), .int .u64 y] [] = some (sr1R ((⟨t1, t2, tr, to, tw, tq⟩ : En)) (y), []) :=
  mkS_eq (enc := fun p : En × Int => [.agg (enC p.1), .int .u64 p.2]) (res := fun p => (sr1R p.1 p.2, [])) (fun x y h => by
    obtain ⟨a0, a1⟩ := x
    obtain ⟨b0, b1⟩ := y
    obtain ⟨h0, h⟩ := List.cons.inj h
    obtain ⟨h1, h⟩ := List.cons.inj h
    have e0 := enC_inj (AVg h0)
    subst e0
    have e1 := AVi h1
    subst e1
    rfl) ((⟨t1, t2, tr, to, tw, tq⟩ : En), y)
noncomputable def sr1_ok_specs : NL Spec := [(156, ⟨1, cmp64S⟩)]
theorem sr1_ok_specs_ok : ∀ p ∈ sr1_ok_specs, FnC Tryz.prog p.1 p.2.fn := by
  simp only [sr1_ok_specs, List.mem_cons, List.not_mem_nil, or_false]
  rintro p rfl
  · exact cmp64_ok
attribute [local simp] sr1_ok_specs cmp64_eq
theorem sr1_ok : FnC Tryz.prog 155 sr1S := by
  refine FnC.walk 155 (fn := Tryz.f155) Tryz.func155 rfl (by kernel_rfl) fun p => ?_
  obtain ⟨⟨t1, t2, tr, to, tw, tq⟩, y⟩ := p
  change W _ (Ret _ _ (sr1R ((⟨t1, t2, tr, to, tw, tq⟩ : En)) (y)) []) _ _ ⟨9, [(0, .agg (.int .u64 t1 :: .int .i64 t2 :: .list 1 (tr.map iC) :: (to.cells ++ [.list 1 (tw.map iC), .list 2 (tq.map askC)]))), (1, .int .u64 y)], []⟩
  repeat' (first | refine ZV ?_ | refine ZB tm sr1_ok_specs_ok ?_ | refine ZH (fun hb => ?_) (fun hb => ?_) | refine ZJ (by conv => lhs; simp [cmp64R]) ?_ | refine ZA (fun hb => ?_) (fun hb => ?_))
  all_goals (first | refine Ret.dataE rfl (by conv => lhs; simp) (by conv => lhs; simp) (by first | rfl | simp [inlT, inlV]) ?_ | refine RetNf.dataE rfl (by conv => lhs; simp) (by conv => lhs; simp) (by first | rfl | simp [inlT, inlV]) ?_)
  all_goals (first | rfl | (simp [sr1R]; done) | (simp_all [sr1R]; done) | (simp_all [sr1R]; omega))
theorem AVel {n : Nat} {a b : {l : List En // l.length ≤ 9001}} (h : AV.list n (a.1.map enC) = AV.list n (b.1.map enC)) : a = b := Subtype.ext (enCs_inj (AVl h))
def bsD (l : List En) (id : Int) : Nat := bsF (fun k => match l[k]? with | some t => decide (t.id < id) | none => false) 0 l.length
def hasD (l : List En) (k : Nat) (id : Int) : Bool := match l[k]? with | some t => decide (t.id = id) | none => false
noncomputable def bsdR (l : {l : List En // l.length ≤ 9001}) (id : Int) : AV := .tup [.int .i64 (bsD l.1 id : Nat), .bool (hasD l.1 (bsD l.1 id) id)]
noncomputable def bsdS : SpecFn := mkS (fun p : {l : List En // l.length ≤ 9001} × Int => [.list 41 (p.1.1.map enC), .int .u64 p.2, .fn (.func 155) [] []]) fun p => (bsdR p.1 p.2, [])
theorem bsd_eq (l : List En) (lh : l.length ≤ 9001) (id : Int) : bsdS [.list 41 (l.map enC), .int .u64 id, .fn (.func 155) [] []] [] = some (bsdR ((⟨l, lh⟩ : {l : List En // l.length ≤ 9001})) (id), []) :=
  mkS_eq (enc := fun p : {l : List En // l.length ≤ 9001} × Int => [.list 41 (p.1.1.map enC), .int .u64 p.2, .fn (.func 155) [] []]) (res := fun p => (bsdR p.1 p.2, [])) (fun x y h => by
    obtain ⟨a0, a1⟩ := x
    obtain ⟨b0, b1⟩ := y
    obtain ⟨h0, h⟩ := List.cons.inj h
    obtain ⟨h1, h⟩ := List.cons.inj h
    obtain ⟨h2, h⟩ := List.cons.inj h
    have e0 := AVel h0
    subst e0
    have e1 := AVi h1
    subst e1
    rfl) ((⟨l, lh⟩ : {l : List En // l.length ≤ 9001}), id)
noncomputable def bsd_ok_specs : NL Spec := [(155, ⟨1, sr1S⟩)]
theorem bsd_ok_specs_ok : ∀ p ∈ bsd_ok_specs, FnC Tryz.prog p.1 p.2.fn := by
  simp only [bsd_ok_specs, List.mem_cons, List.not_mem_nil, or_false]
  rintro p rfl
  · exact sr1_ok
attribute [local simp] bsd_ok_specs sr1_eq
theorem bsd_ok : FnC Tryz.prog 154 bsdS := by
  refine FnC.walk 154 (fn := Tryz.f154) Tryz.func154 rfl (by kernel_rfl) fun p => ?_
  obtain ⟨⟨l, lh⟩, id⟩ := p
  change W _ (Ret _ _ (bsdR ((⟨l, lh⟩ : {l : List En // l.length ≤ 9001})) (id)) []) _ _ ⟨49, [(0, .list 41 (l.map enC)), (1, .int .u64 id), (2, .fn (.func 155) [] [])], []⟩
  repeat' (first | refine ZV ?_ | refine ZB tm bsd_ok_specs_ok ?_ | refine ZH (fun hb => ?_) (fun hb => ?_) | refine ZJ (by conv => lhs; simp [lh]) ?_ | refine ZA (fun hb => ?_) (fun hb => ?_))
  have cap : l.length ≤ 9223372036854775807 := by omega
  obtain ⟨B, hE⟩ : ∃ B, bsD l id = B := ⟨_, rfl⟩
  have hB := hE
  unfold bsD at hB
  generalize hC : (fun (k : Nat) => match l[k]? with | some (t : En) => decide (t.id < id) | none => false) = C at hB
  refine W.loop rfl (ι := { q : Nat × Nat × NL ABlk // q.1 ≤ q.2.1 ∧ q.2.1 ≤ l.length ∧ bsF C q.1 q.2.1 = B })
    (fun q => ⟨49, [(0, .list 41 (l.map enC)), (1, .int .u64 id), (2, .fn (.func 155) [] []), (8, .int .i64 l.length), (9, .int .i64 (q.1.1 : Nat)), (10, .int .i64 (q.1.2.1 : Nat))], q.1.2.2⟩) (fun q => q.1.2.1 - q.1.1)
    ⟨(0, l.length, []), by simp, by simp, hB⟩ (AS.le_of rfl ⟨rfl, rfl, rfl, rfl, rfl, rfl, trivial⟩ (fun _ => rfl)) ?_
  rintro ⟨⟨lo, hi, h⟩, h1, h2, h3⟩
  dsimp only at h1 h2 h3 ⊢
  by_cases hlt : lo < hi
  · rw [bsF_lt hlt] at h3
    have q1 : (lo : Int) < hi := by omega
    obtain ⟨m, hm⟩ : ∃ m, (lo + hi) / 2 = m := ⟨_, rfl⟩
    rw [hm] at h3
    obtain ⟨t, ht⟩ := get_lt (l := l) (i := m) (by omega)
    have hg : (l.map enC)[m]? = some (enC t) := by rw [List.getElem?_map, ht]; rfl
    have q2 : ¬ l.length ≤ m := by omega
    have hw : IntKind.i64.wrap ((m : Int) + 1) = ((m + 1 : Nat) : Int) := w64 (by omega) (by omega)
    have hcm : C m = decide (t.id < id) := by rw [← hC]; simp only [ht]
    rw [hcm] at h3
    clear hlt
    have hh := half (lo := lo) (hi := hi) (by omega)
    rw [hm] at hh
    obtain ⟨a1, a2, r, o, w, q⟩ := t
    simp only [enC] at hg
    repeat' (first | refine ZV ?_ | refine ZB tm bsd_ok_specs_ok ?_ | refine ZH (fun hb => ?_) (fun hb => ?_) | refine ZJ (by conv => lhs; simp [q1, hh, q2, hg, sr1R, hw]) ?_ | refine ZA (fun hb => ?_) (fun hb => ?_))
    · have hb' : a1 < id := by simpa using hb
      rw [if_pos (by simpa using hb')] at h3
      exact ⟨⟨(m + 1, hi, _), by dsimp only; omega, h2, h3⟩, by dsimp only; omega, AS.le_of rfl ⟨rfl, rfl, rfl, rfl, rfl, rfl, trivial⟩ (fun _ => rfl)⟩
    · have hb' : ¬ a1 < id := by simpa using hb
      rw [if_neg (by simpa using hb')] at h3
      exact ⟨⟨(lo, m, _), by dsimp only; omega, by dsimp only; omega, h3⟩, by dsimp only; omega, AS.le_of rfl ⟨rfl, rfl, rfl, rfl, rfl, rfl, trivial⟩ (fun _ => rfl)⟩
  · rw [bsF_ge hlt] at h3
    subst h3
    have q1 : ¬ (lo : Int) < hi := by omega
    have e1 : lo = hi := by omega
    subst e1
    by_cases hz : lo < l.length
    · obtain ⟨t, ht⟩ := get_lt (l := l) (i := lo) (by omega)
      have hg : (l.map enC)[lo]? = some (enC t) := by rw [List.getElem?_map, ht]; rfl
      have q2 : ¬ l.length ≤ lo := by omega
      have q3 : (lo : Int) < l.length := by omega
      obtain ⟨a1, a2, r, o, w, q⟩ := t
      simp only [enC] at hg
      clear hlt hz
      repeat' (first | refine ZV ?_ | refine ZB tm bsd_ok_specs_ok ?_ | refine ZH (fun hb => ?_) (fun hb => ?_) | refine ZJ (by conv => lhs; simp [q1, q2, q3, hg, sr1R]) ?_ | refine ZA (fun hb => ?_) (fun hb => ?_))
      all_goals (first | refine Ret.dataE rfl (by conv => lhs; simp) (by conv => lhs; simp) (by first | rfl | simp [inlT, inlV]) ?_ | refine RetNf.dataE rfl (by conv => lhs; simp) (by conv => lhs; simp) (by first | rfl | simp [inlT, inlV]) ?_)
      all_goals (first | rfl | (simp [bsdR, hE, hasD, ht]; done) | (simp_all [bsdR, hE, hasD, ht]; done) | (simp_all [bsdR, hE, hasD, ht]; omega))
    · have q3 : ¬ (lo : Int) < l.length := by omega
      have q4 : l[lo]? = none := by simp; omega
      clear hlt hz
      repeat' (first | refine ZV ?_ | refine ZB tm bsd_ok_specs_ok ?_ | refine ZH (fun hb => ?_) (fun hb => ?_) | refine ZJ (by conv => lhs; simp [q1, q3]) ?_ | refine ZA (fun hb => ?_) (fun hb => ?_))
      all_goals (first | refine Ret.dataE rfl (by conv => lhs; simp) (by conv => lhs; simp) (by first | rfl | simp [inlT, inlV]) ?_ | refine RetNf.dataE rfl (by conv => lhs; simp) (by conv => lhs; simp) (by first | rfl | simp [inlT, inlV]) ?_)
      all_goals (first | rfl | (simp [bsdR, hE, hasD, q4]; done) | (simp_all [bsdR, hE, hasD, q4]; done) | (simp_all [bsdR, hE, hasD, q4]; omega))
noncomputable def seaR (l : {l : List En // l.length ≤ 9001}) (id : Int) : AV := .tup [.int .i64 (bsD l.1 id : Nat), .bool (hasD l.1 (bsD l.1 id) id)]
noncomputable def seaS : SpecFn := mkS (fun p : {l : List En // l.length ≤ 9001} × Int => [.list 41 (p.1.1.map enC), .int .u64 p.2]) fun p => (seaR p.1 p.2, [])
theorem sea_eq (l : List En) (lh : l.length ≤ 9001) (id : Int) : seaS [.list 41 (l.map enC), .int .u64 id] [] = some (seaR ((⟨l, lh⟩ : {l : List En // l.length ≤ 9001})) (id), []) :=
  mkS_eq (enc := fun p : {l : List En // l.length ≤ 9001} × Int => [.list 41 (p.1.1.map enC), .int .u64 p.2]) (res := fun p => (seaR p.1 p.2, [])) (fun x y h => by
    obtain ⟨a0, a1⟩ := x
    obtain ⟨b0, b1⟩ := y
    obtain ⟨h0, h⟩ := List.cons.inj h
    obtain ⟨h1, h⟩ := List.cons.inj h
    have e0 := AVel h0
    subst e0
    have e1 := AVi h1
    subst e1
    rfl) ((⟨l, lh⟩ : {l : List En // l.length ≤ 9001}), id)
noncomputable def sea_ok_specs : NL Spec := [(154, ⟨0, bsdS⟩), (155, ⟨1, sr1S⟩)]
theorem sea_ok_specs_ok : ∀ p ∈ sea_ok_specs, FnC Tryz.prog p.1 p.2.fn := by
  simp only [sea_ok_specs, List.mem_cons, List.not_mem_nil, or_false]
  rintro p (rfl | rfl)
  · exact bsd_ok
  · exact sr1_ok
attribute [local simp] sea_ok_specs bsd_eq sr1_eq
theorem sea_ok : FnC Tryz.prog 116 seaS := by
  refine FnC.walk 116 (fn := Tryz.f116) Tryz.func116 rfl (by kernel_rfl) fun p => ?_
  obtain ⟨⟨l, lh⟩, id⟩ := p
  change W _ (Ret _ _ (seaR ((⟨l, lh⟩ : {l : List En // l.length ≤ 9001})) (id)) []) _ _ ⟨11, [(0, .list 41 (l.map enC)), (1, .int .u64 id)], []⟩
  have cb := bsd_eq l lh id
  repeat' (first | refine ZV ?_ | refine ZB tm sea_ok_specs_ok ?_ | refine ZH (fun hb => ?_) (fun hb => ?_) | refine ZJ (by conv => lhs; simp [cb, bsdR]) ?_ | refine ZA (fun hb => ?_) (fun hb => ?_))
  all_goals (first | refine Ret.dataE rfl (by conv => lhs; simp) (by conv => lhs; simp) (by first | rfl | simp [inlT, inlV]) ?_ | refine RetNf.dataE rfl (by conv => lhs; simp) (by conv => lhs; simp) (by first | rfl | simp [inlT, inlV]) ?_)
  all_goals (first | rfl | (simp [seaR]; done) | (simp_all [seaR]; done) | (simp_all [seaR]; omega))
def putD (e : En) (l : List En) : List En := if hasD l (bsD l e.id) e.id then l.set (bsD l e.id) e else l.take (bsD l e.id) ++ e :: l.drop (bsD l e.id)
theorem bsF_bd (c : Nat → Bool) : ∀ (d lo hi : Nat), hi - lo = d → lo ≤ hi → lo ≤ bsF c lo hi ∧ bsF c lo hi ≤ hi := by
  intro d
  induction d using Nat.strongRecOn with
  | ind d ih =>
    intro lo hi hd hl
    by_cases h : lo < hi
    · rw [bsF_lt h]
      split
      · have := ih (hi - ((lo + hi) / 2 + 1)) (by omega) ((lo + hi) / 2 + 1) hi rfl (by omega)
        omega
      · have := ih ((lo + hi) / 2 - lo) (by omega) lo ((lo + hi) / 2) rfl (by omega)
        omega
    · rw [bsF_ge h]
      omega
theorem bsD_le (l : List En) (id : Int) : bsD l id ≤ l.length := (bsF_bd _ _ 0 l.length rfl (by omega)).2
theorem insD_eq (elem size bytes n i : Nat) (rows : List (List AV)) (z : List AV) (hn : n = rows.length) (h1 : n ≤ 1000000) (hb : (n + 1) * bytes ≤ 140737488355328) (hi : i ≤ n) : insertC elem size bytes [.sl 0 0 0 n, .int .i64 (i : Nat), .sl 1 0 0 1] [{ gen := 0, kind := 2, elem := elem, size := size, inl := true, rows }, { gen := 0, kind := 2, elem := elem, size := size, inl := true, rows := [z] }] = some (.sl 0 1 0 (n + 1), [{ gen := 1, kind := 2, elem := elem, size := size, inl := true, rows := rows.take i ++ [z] ++ rows.drop i }, { gen := 0, kind := 2, elem := elem, size := size, inl := true, rows := [z] }]) := by
  unfold insertC
  simp only [okB, beq_self_eq_true, Bool.and_self, true_and, Int.toNat_natCast, rowB]
  rw [if_pos ⟨hn, rfl, hb, h1, by omega, by omega⟩]
end Go.Abs.Nz
namespace Go.Abs.Nz
open Go Go.Proofs Go.Abs
set_option maxRecDepth 100000
set_option maxHeartbeats 4000000
set_option linter.unusedSimpArgs false
set_option linter.unusedVariables false
attribute [local simp] instA slice3A slice3C
attribute [-simp] mkv
attribute [local simp] mkv_hd hdA_cons hdA_ob hdA_ob'
def rD (n : Int) (l : List En) (ms : List Msg) (e : Int) : AV := .tup [.agg [.int .i64 n, .list 41 (l.map enC)], .list 45 (ms.map Msg.v), .int .i64 e]
theorem enC_nrm (e : En) : nrmL Tryz.prog (leafs Tryz.prog 85) (enC e) = enC e := by
  rw [enLeafs]
  simp only [enC, nrmL]
  rw [nrmL_append _ _ _ _ e.obj.len'.symm, e.obj.nrmL]
  simp only [nrmL, nrmV, uI, uA, nrmRows_map iC_nrm, nrmRows_map askC_nrm]
theorem uE : Tryz.prog.underlying 69 = some (.slice 85) := by kernel_rfl
theorem uM : Tryz.prog.underlying 55 = some (.slice 46) := by kernel_rfl
theorem cE : Tryz.prog.cellsOf 85 = 41 := by kernel_rfl
theorem cM : Tryz.prog.cellsOf 46 = 45 := by kernel_rfl
theorem drLeafs : leafs Tryz.prog 71 = [3, 69] := lf71
theorem rD_nrm (n : Int) (l : List En) (ms : List Msg) (e : Int) : nrmR Tryz.prog [71, 55, 56] (rD n l ms e) = rD n l ms e := by
  simp only [rD, nrmR, nrmL, nrmV, drLeafs, uE, uM, nrmRows_map enC_nrm, nrmRows_map msg_nrm]
theorem rD_nrm0 (e : Int) : nrmR Tryz.prog [71, 55, 56] (.tup [.agg [.int .i64 0, .nils], .nils, .int .i64 e]) = rD 0 [] [] e := by
  simp only [rD, nrmR, nrmL, nrmV, drLeafs, uE, uM, cE, cM, List.map_nil]
theorem listR_app : ∀ {a : List AV} (_ : a.all AV.isInl = true) (l : List AV) (H : NL ABlk), listR frz0R (a ++ l) H = mapO (fun r => a ++ r) (listR frz0R l H)
  | [], _, l, H => by
    show listR frz0R l H = _
    cases listR frz0R l H with
    | none => rfl
    | some o => rfl
  | x :: a, h, l, H => by
    simp only [List.all_cons, Bool.and_eq_true] at h
    rw [List.cons_append, listR, frz0R_inl h.1, nxt_some, listR_app h.2, nxt_map, ← nxt_ret]
    rfl
@[local simp] theorem listR_ob (o : Ob) (l : List AV) (H : NL ABlk) : listR frz0R (o.cells ++ l) H = mapO (fun r => o.cells ++ r) (listR frz0R l H) := listR_app o.isInl l H
structure Fin where
  d : Drs
  e : En
  h1 : e.readers.length + e.queue.length ≤ 9000
  h2 : e.waiting.length ≤ 9000
  h3 : Dir.Asc e.readers
noncomputable def finR (x : Fin) : AV × List ABlk := (rD x.d.node (putD (Dir.goOn zOb x.e).2 x.d.ents) (goM x.e x.d.node) 0, [sesB (Dir.goOn zOb x.e).2 x.d.node (.list 45 ((goM x.e x.d.node).map Msg.v))])
noncomputable def finS : SpecFn := mkS2 (fun x : Fin => ([.ptr 0 0 0 0, x.d.v], [sesB x.e x.d.node .nils])) finR
theorem finS_eq (x : Fin) : finS [.ptr 0 0 0 0, x.d.v] [sesB x.e x.d.node .nils] = some (finR x) :=
  mkS2_eq (enc := fun x : Fin => ([AV.ptr 0 0 0 0, x.d.v], [sesB x.e x.d.node .nils])) (res := finR) (fun x y h => by
    obtain ⟨d, e, h1, h2, h3⟩ := x
    obtain ⟨d', e', h1', h2', h3'⟩ := y
    simp only [sesB, Prod.mk.injEq, List.cons.injEq, ABlk.mk.injEq, true_and, and_true] at h
    cases Drs.v_inj h.1
    obtain ⟨rfl, _⟩ := sesC_inj h.2
    rfl) x
theorem goOn_id (e : En) : (Dir.goOn zOb e).2.id = e.id := by
  unfold Dir.goOn
  split <;> rfl
noncomputable def fin_specs : NL Spec := [(115, ⟨3, goS⟩), (74, ⟨1, ownS⟩), (116, ⟨0, seaS⟩), (117, ⟨3, insertC 85 41 552⟩)]
theorem fin_specs_ok : ∀ p ∈ fin_specs, FnC Tryz.prog p.1 p.2.fn := by
  simp only [fin_specs, List.mem_cons, List.not_mem_nil, or_false]
  rintro p (rfl | rfl | rfl | rfl)
  · exact go_ok
  · exact own_ok
  · exact sea_ok
  · exact insert117_ok
attribute [local simp] fin_specs
theorem fin_ok : FnC Tryz.prog 67 finS := by
  refine FnC.walkBN 67 (fn := Tryz.f67) [71, 55, 56] Tryz.func67 rfl (by kernel_rfl) (fun x b hb => by simp at hb; rw [hb]; rfl) (fun x => ?_) (fun x => ⟨_, rD_nrm _ _ _ _⟩)
  obtain ⟨⟨nd, l, hl, he⟩, e, k1, k2, k3⟩ := x
  have c1 := goS_eq ⟨e, nd, k1, k2, k3⟩
  change W _ (RetBN _ _ _ 1 (rD nd (putD (Dir.goOn zOb e).2 l) (goM e nd) 0) [sesB (Dir.goOn zOb e).2 nd (.list 45 ((goM e nd).map Msg.v))]) _ _ ⟨61, [(0, .ptr 0 0 0 0), (1, .agg [.int .i64 nd, .list 41 (l.map enC)])], [(0, { gen := 0, kind := 2, elem := 117, size := 43, inl := false, rows := [.int .u64 e.id :: .int .i64 e.owner :: .list 1 (e.readers.map iC) :: (e.obj.cells ++ [.list 1 (e.waiting.map iC), .list 2 (e.queue.map askC), .int .i64 nd, .nils])] })]⟩
  unfold goR at c1
  dsimp only at c1
  generalize goM e nd = ms at *
  generalize Dir.goOn zOb e = G at *
  obtain ⟨m0, e'⟩ := G
  dsimp only at c1 ⊢
  simp only [sesB, sesC, msgB] at c1 ⊢
  have cap : l.length ≤ 9223372036854775807 := by omega
  have tkm : List.take ms.length (ms.map Msg.v) = ms.map Msg.v := List.take_of_length_le (by simp)
  repeat' (first | refine ZV ?_ | refine ZB (id := 0) tm fin_specs_ok ?_ | refine ZB (id := 1) tm fin_specs_ok ?_ | refine ZH (fun hb => ?_) (fun hb => ?_) | refine ZJ (by conv => lhs; simp [c1]) ?_ | refine ZA (fun hb => ?_) (fun hb => ?_))
  refine W.frzC 0 0 42 rfl rfl rfl rfl (by simp; rfl) (by conv => lhs; simp [frqT, frqV, frq1, frz1, AP.run, tkm]) (by rfl) ?_
  repeat' (first | refine ZV ?_ | refine ZB (id := 2) tm fin_specs_ok ?_ | refine ZB (id := 3) tm fin_specs_ok ?_ | refine ZH (fun hb => ?_) (fun hb => ?_) | refine ZJ (by conv => lhs; simp [cap]) ?_ | refine ZA (fun hb => ?_) (fun hb => ?_))
  refine W.phantom (t := 7) 416 85 41 true (by rfl) (by rfl) (by decide) ?_
  refine W.loop rfl (ι := { x : Nat × Nat × NL ABlk // x.1 ≤ l.length ∧ lk x.2.2 0 = some { gen := 0, kind := 2, elem := 117, size := 43, inl := false, rows := [.int .u64 e'.id :: .int .i64 e'.owner :: .list 1 (e'.readers.map iC) :: (e'.obj.cells ++ [.list 1 (e'.waiting.map iC), .list 2 (e'.queue.map askC), .int .i64 nd, .list 45 (ms.map Msg.v)])] } ∧ lk x.2.2 64 = some { gen := 1, kind := 2, elem := 71, size := 2, inl := false, rows := [[.int .i64 nd, .list 41 (l.map enC)]] } ∧ lk x.2.2 80 = some { gen := 1, kind := 2, elem := 71, size := 2, inl := false, rows := [[.int .i64 0, .nils]] } ∧ lk x.2.2 416 = some { gen := x.2.1, kind := 2, elem := 85, size := 41, inl := true, rows := (l.take x.1).map enC } })
    (fun x => ⟨61, [(0, .ptr 0 0 0 0), (3, .ptr 64 1 0 0), (4, .ptr 80 1 0 0), (7, .sl 416 x.1.2.1 0 x.1.1), (15, .list 41 (l.map enC)), (16, .int .i64 l.length), (17, .int .i64 (x.1.1 : Nat))], x.1.2.2⟩) (fun x => l.length - x.1.1)
    ⟨(0, 0, _), by simp, by simp [lk, lk_st], by simp [lk, lk_st], by simp [lk, lk_st], by simp [lk, lk_st]⟩ (AS.le_of rfl ⟨rfl, rfl, rfl, rfl, rfl, rfl, rfl, trivial⟩ (fun _ => rfl)) ?_
  rintro ⟨⟨k, g, h⟩, hk, g0, g1, g2, g3⟩
  dsimp only at hk g0 g1 g2 g3 ⊢
  by_cases hk2 : k = l.length
  · subst hk2
    rw [List.take_length] at g3
    have hil := bsD_le l e'.id
    have cs := sea_eq l (by omega) e'.id
    simp only [seaR] at cs
    unfold putD
    generalize bsD l e'.id = i at *
    have tl : List.take l.length (l.map enC) = l.map enC := List.take_of_length_le (by simp)
    cases hh : hasD l i e'.id with
    | true =>
      rw [hh] at cs
      have hi : i < l.length := by
        unfold hasD at hh
        split at hh
        · rename_i h0; exact (List.getElem?_eq_some_iff.1 h0).1
        · cases hh
      rw [if_pos rfl]
      obtain ⟨y, hy⟩ := get_lt hi
      have hm : (l.map enC)[i]? = some (enC y) := by rw [List.getElem?_map, hy]; rfl
      simp only [enC] at hm
      have q1 : (i : Int) < l.length := by omega
      have q2 : ¬ l.length ≤ i := by omega
      have hst : (l.map enC).set i (.int .u64 e'.id :: .int .i64 e'.owner :: .list 1 (e'.readers.map iC) :: (e'.obj.cells ++ [.list 1 (e'.waiting.map iC), .list 2 (e'.queue.map askC)])) = (l.set i e').map enC := by rw [List.map_set]; rfl
      have tl2 : List.take l.length ((l.set i e').map enC) = (l.set i e').map enC := List.take_of_length_le (by simp)
      have l2 : (l.set i e').length = l.length := by simp
      generalize l.set i e' = L at *
      repeat' (first | refine ZV ?_ | refine ZB tm fin_specs_ok ?_ | refine ZH (fun hb => ?_) (fun hb => ?_) | refine ZJ (by conv => lhs; simp [g0, g1, g2, g3, cs, tl, hm, q1, q2, cap, hst]) ?_ | refine ZA (fun hb => ?_) (fun hb => ?_))
      refine RetBN.dataE true [0] rfl (by conv => lhs; simp [lk_st, g1]) (by conv => lhs; simp [frqT, frqV, frqVs, frqL, frq1, lk_st, tl2, l2]) (by decide) (by rintro j hj; rcases (show j = 0 by omega) with rfl; exact ⟨rfl, by simp [lk_st, g0]⟩) (by simp [lk_st, g0]) (by conv => lhs; simp) ?_
      exact rD_nrm nd L ms 0
    | false =>
      rw [hh] at cs
      rw [if_neg (by simp)]
      have y3 : l.length ≤ 1000000 := by omega
      have y4 : (l.length + 1) * 552 ≤ 140737488355328 := by omega
      have ci := insD_eq 85 41 552 l.length i (l.map enC) (enC e') (by simp) y3 y4 hil
      simp only [enC] at ci
      have hst : (l.map enC).take i ++ (.int .u64 e'.id :: .int .i64 e'.owner :: .list 1 (e'.readers.map iC) :: (e'.obj.cells ++ [.list 1 (e'.waiting.map iC), .list 2 (e'.queue.map askC)])) :: (l.map enC).drop i = (l.take i ++ e' :: l.drop i).map enC := by rw [List.map_append, List.map_cons, List.map_take, List.map_drop]; rfl
      have l2 : (l.take i ++ e' :: l.drop i).length = l.length + 1 := by simp; omega
      generalize l.take i ++ e' :: l.drop i = L at *
      have tl2 : List.take (l.length + 1) (L.map enC) = L.map enC := List.take_of_length_le (by simp; omega)
      repeat' (first | refine ZV ?_ | refine ZB tm fin_specs_ok ?_ | refine ZH (fun hb => ?_) (fun hb => ?_) | refine ZJ (by conv => lhs; simp [g0, g1, g2, g3, cs, tl, ci, cap, m1, hst]) ?_ | refine ZA (fun hb => ?_) (fun hb => ?_))
      refine RetBN.dataE true [0] rfl (by conv => lhs; simp [lk_st, g1]) (by conv => lhs; simp [frqT, frqV, frqVs, frqL, frq1, lk_st, tl2, l2]) (by decide) (by rintro j hj; rcases (show j = 0 by omega) with rfl; exact ⟨rfl, by simp [lk_st, g0]⟩) (by simp [lk_st, g0]) (by conv => lhs; simp) ?_
      exact rD_nrm nd L ms 0
  · have hlt : k < l.length := by omega
    obtain ⟨y, hy⟩ := get_lt hlt
    have hm : (l.map enC)[k]? = some (enC y) := by rw [List.getElem?_map, hy]; rfl
    have co := ownS_eq y (he y (List.mem_of_getElem? hy))
    simp only [enC, enX, ixiB, ixaB] at hm co
    have q1 : (k : Int) < l.length := by omega
    have q2 : ¬ l.length ≤ k := by omega
    have hw : IntKind.i64.wrap ((k : Int) + 1) = ((k + 1 : Nat) : Int) := w64 (by omega) (by omega)
    have y1 : k ≤ maxLen := by simp only [maxLen]; omega
    have y2 : (k + 1) * 552 ≤ 140737488355328 := by omega
    have y3 : k + 1 ≤ maxLen := by simp only [maxLen]; omega
    have y4 : k ≤ 9223372036854775807 := by omega
    have ta : (l.take (k + 1)).map enC = (l.take k).map enC ++ [enC y] := by rw [List.take_add_one, hy, Option.toList_some, List.map_append]; rfl
    have tl : ((l.take k).map enC).length = k := by simp; omega
    obtain ⟨A, hA⟩ : ∃ A, (l.take k).map enC = A := ⟨_, rfl⟩
    rw [hA] at ta tl g3
    have tA : List.take k A = A := List.take_of_length_le (by omega)
    have fA : firstRows k A = A := first_all tl
    have t1 : List.take y.readers.length (y.readers.map iC) = y.readers.map iC := List.take_of_length_le (by simp)
    have t2 : List.take y.waiting.length (y.waiting.map iC) = y.waiting.map iC := List.take_of_length_le (by simp)
    have t3 : List.take y.queue.length (y.queue.map askC) = y.queue.map askC := List.take_of_length_le (by simp)
    clear hlt hk2
    repeat' (first | refine ZV ?_ | refine ZB tm fin_specs_ok ?_ | refine ZH (fun hb => ?_) (fun hb => ?_) | refine ZJ (by conv => lhs; simp [g0, g1, g2, g3, hm, co, q1, q2, hw, y1, y2, y3, y4, tA, fA, tl, t1, t2, t3, m1]) ?_ | refine ZA (fun hb => ?_) (fun hb => ?_))
    exact ⟨⟨(k + 1, g + 1, _), by dsimp only; omega, by simp [lk_st, g0], by simp [lk_st, g1], by simp [lk_st, g2], by simp [lk_st, ta]⟩, by dsimp only; omega, AS.le_of rfl ⟨rfl, rfl, rfl, rfl, rfl, rfl, rfl, trivial⟩ (fun _ => rfl)⟩
end Go.Abs.Nz
namespace Go.Abs.Nz
open Go Go.Proofs Go.Abs
set_option maxRecDepth 100000
set_option maxHeartbeats 4000000
set_option linter.unusedSimpArgs false
set_option linter.unusedVariables false
attribute [local simp] instA
attribute [-simp] mkv
attribute [local simp] mkv_hd hdA_cons hdA_ob hdA_ob'
noncomputable def flS : SpecFn := mkS (fun e : Int => [.int .i64 e]) fun e => (rD 0 [] [] e, [])
theorem flS_eq (e : Int) : flS [.int .i64 e] [] = some (rD 0 [] [] e, []) :=
  mkS_eq (enc := fun e : Int => [AV.int .i64 e]) (res := fun e => (rD 0 [] [] e, [])) (fun x y h => by
    simp only [List.cons.injEq, AV.int.injEq, true_and, and_true] at h
    rw [h]) e
theorem af_ok : FnC Tryz.prog 61 flS := by
  refine FnC.walkN 61 (fn := Tryz.f61) [71, 55, 56] Tryz.func61 rfl (by kernel_rfl) (fun e => ?_) (fun e => ⟨_, rD_nrm _ _ _ _⟩)
  change W _ (RetNf _ _ _ (rD 0 [] [] e) []) _ _ ⟨7, [(0, .int .i64 e)], []⟩
  repeat' (first | refine ZV ?_ | refine ZB tm no_specs ?_ | refine ZH (fun hb => ?_) (fun hb => ?_) | refine ZJ (by conv => lhs; simp) ?_ | refine ZA (fun hb => ?_) (fun hb => ?_))
  exact RetNf.dataE rfl (by conv => lhs; simp) (by conv => lhs; simp) (by first | rfl | simp [inlT, inlV]) (rD_nrm0 e)
noncomputable def a2S (n : Int) : SpecFn := mkS2 (fun p : Int × Int => ([.agg (askC p), .ptr 0 0 0 0], [{ gen := 0, kind := 2, elem := 3, size := 1, inl := false, rows := [iC n] }])) fun p => (.bool (p.1 == n), [{ gen := 0, kind := 2, elem := 3, size := 1, inl := false, rows := [iC n] }])
theorem a2S_eq (n : Int) (p : Int × Int) : a2S n [.agg (askC p), .ptr 0 0 0 0] [{ gen := 0, kind := 2, elem := 3, size := 1, inl := false, rows := [iC n] }] = some (.bool (p.1 == n), [{ gen := 0, kind := 2, elem := 3, size := 1, inl := false, rows := [iC n] }]) :=
  mkS2_eq (enc := fun p : Int × Int => ([AV.agg (askC p), .ptr 0 0 0 0], [{ gen := 0, kind := 2, elem := 3, size := 1, inl := false, rows := [iC n] }])) (res := fun p => (.bool (p.1 == n), [{ gen := 0, kind := 2, elem := 3, size := 1, inl := false, rows := [iC n] }])) (fun x y h => by
    simp only [askC, Prod.mk.injEq, List.cons.injEq, AV.agg.injEq, AV.int.injEq, true_and, and_true] at h
    rw [show x = y from Prod.ext h.1 h.2]) p
theorem a2_ok (n : Int) : FnC Tryz.prog 64 (a2S n) := by
  refine FnC.walkB 64 (fn := Tryz.f64) Tryz.func64 rfl (by kernel_rfl) (fun x b hb => by simp at hb; rw [hb]) fun p => ?_
  obtain ⟨a, m⟩ := p
  change W _ (RetB _ _ 1 (.bool (a == n)) [{ gen := 0, kind := 2, elem := 3, size := 1, inl := false, rows := [[.int .i64 n]] }]) _ _ ⟨8, [(0, .agg [.int .i64 a, .int .i64 m]), (1, .ptr 0 0 0 0)], [(0, { gen := 0, kind := 2, elem := 3, size := 1, inl := false, rows := [[.int .i64 n]] })]⟩
  repeat' (first | refine ZV ?_ | refine ZB tm no_specs ?_ | refine ZH (fun hb => ?_) (fun hb => ?_) | refine ZJ (by conv => lhs; simp) ?_ | refine ZA (fun hb => ?_) (fun hb => ?_))
  exact RetB.raw [0] rfl (by conv => lhs; simp) (by decide) (by simp) (by simp [renL]) (by simp)
noncomputable def a2V (n : Int) : ixaW := ⟨64, by simp, by simp, fun p => p.1 == n, 3, 1, iC n, by simp [iC, refsL, AV.refs], by simp [iC, renL, AV.ren], a2S n, a2_ok n, a2S_eq n⟩
theorem fineB_asc {e : En} (h : fineB e = true) : ascN e.readers = true ∧ ascN e.waiting = true := by
  unfold fineB at h
  simp only [Bool.and_eq_true] at h
  exact ⟨h.2.2.2.1, h.2.2.2.2.1⟩
theorem asc_len {l : List Int} (h : ascN l = true) : l.length ≤ 128 := by
  obtain ⟨h1, h2⟩ := ascN_iff.1 h
  have hn : l.Nodup := h2.imp fun h => by omega
  have := Dir.nodup_len (S := (List.range 128).map Int.ofNat) hn (fun x hx => by
    have hx := h1 x hx
    simp only [okN, Bool.and_eq_true, decide_eq_true_eq] at hx
    rw [List.mem_map]
    exact ⟨x.toNat, List.mem_range.2 (by omega), by simp; omega⟩)
  simpa using this
theorem validD_fine {nd : Int} {l : List En} (h : validD nd l = true) : ∀ e ∈ l, fineB e = true := fun e he => by
  obtain ⟨k, hk, rfl⟩ := List.mem_iff_getElem.1 he
  unfold validD at h
  rw [Bool.and_eq_true, List.all_eq_true] at h
  have := h.1 k (List.mem_range.2 hk)
  unfold goodD at this
  rw [List.getElem?_eq_getElem hk] at this
  simp only [Bool.and_eq_true] at this
  exact this.1
theorem fndD_ok {nd : Int} {l : List En} (hl : ∀ e ∈ l, okE e) (h : validD nd l = true) (id : Int) : okE (fndD id l) ∧ Dir.Asc (fndD id l).readers ∧ (fndD id l).readers.length ≤ 128 ∧ (fndD id l).waiting.length ≤ 128 := by
  unfold fndD
  cases hf : l.find? (fun e => e.id == id) with
  | none => exact ⟨⟨Nat.zero_le _, Nat.zero_le _, Nat.zero_le _⟩, List.Pairwise.nil, Nat.zero_le _, Nat.zero_le _⟩
  | some e =>
    have hm := List.mem_of_find?_eq_some hf
    obtain ⟨a1, a2⟩ := fineB_asc (validD_fine h e hm)
    exact ⟨hl e hm, (ascN_iff.1 a1).2, asc_len a1, asc_len a2⟩
noncomputable def askL (d : Drs) (id n m : Int) : Int × List En × List Msg × Int :=
  if validD d.node d.ents = false then (0, [], [], 1) else if (id == 0 || (!okN n || !okM m)) = true then (0, [], [], 2) else
    let e := fndD id d.ents
    if (e.owner == n || ((m == 1 && decide (n ∈ e.readers)) || e.queue.any fun p => p.1 == n)) = true then (0, [], [], 8) else
      let e1 : En := { e with queue := e.queue ++ [(n, m)] }
      (d.node, putD (Dir.goOn zOb e1).2 d.ents, goM e1 d.node, 0)
noncomputable def askS : SpecFn := mkS (fun d : Drs × Int × Int × Int => [d.1.v, .int .u64 d.2.1, .int .i64 d.2.2.1, .int .i64 d.2.2.2]) fun d => (rD (askL d.1 d.2.1 d.2.2.1 d.2.2.2).1 (askL d.1 d.2.1 d.2.2.1 d.2.2.2).2.1 (askL d.1 d.2.1 d.2.2.1 d.2.2.2).2.2.1 (askL d.1 d.2.1 d.2.2.1 d.2.2.2).2.2.2, [])
theorem askS_eq (d : Drs) (id n m : Int) : askS [d.v, .int .u64 id, .int .i64 n, .int .i64 m] [] = some (rD (askL d id n m).1 (askL d id n m).2.1 (askL d id n m).2.2.1 (askL d id n m).2.2.2, []) :=
  mkS_eq (enc := fun d : Drs × Int × Int × Int => [d.1.v, AV.int .u64 d.2.1, .int .i64 d.2.2.1, .int .i64 d.2.2.2]) (res := fun d => (rD (askL d.1 d.2.1 d.2.2.1 d.2.2.2).1 (askL d.1 d.2.1 d.2.2.1 d.2.2.2).2.1 (askL d.1 d.2.1 d.2.2.1 d.2.2.2).2.2.1 (askL d.1 d.2.1 d.2.2.1 d.2.2.2).2.2.2, [])) (fun x y h => by
    obtain ⟨a, b, c, e⟩ := x
    obtain ⟨a', b', c', e'⟩ := y
    simp only [List.cons.injEq, AV.int.injEq, true_and, and_true] at h
    obtain ⟨h, rfl, rfl, rfl⟩ := h
    cases Drs.v_inj h
    rfl) (d, id, n, m)
theorem ask_ok : FnC Tryz.prog 30 askS := by
  refine FnC.walkN 30 (fn := Tryz.f30) [71, 55, 56] Tryz.func30 rfl (by kernel_rfl) (fun x => ?_) (fun x => ⟨_, rD_nrm _ _ _ _⟩)
  obtain ⟨⟨nd, l, hl, he⟩, id, n, m⟩ := x
  obtain ⟨SD, hSD⟩ : ∃ S, S = ixac2 (a2V n) := ⟨_, rfl⟩
  have sp : ∀ x ∈ ([(39, ⟨1, vdS⟩), (61, ⟨1, flS⟩), (62, ⟨1, boS okN⟩), (63, ⟨1, boS okM⟩), (35, ⟨1, entS⟩), (65, ⟨0, conS⟩), (66, ⟨3, SD⟩), (67, ⟨3, finS⟩)] : NL Spec), FnC Tryz.prog x.1 x.2.fn := by
    simp only [List.mem_cons, List.not_mem_nil, or_false]
    rintro x (rfl | rfl | rfl | rfl | rfl | rfl | rfl | rfl)
    · exact vdp_ok
    · exact af_ok
    · exact nod_ok
    · exact mod_ok
    · exact ent_ok
    · exact con_ok
    · rw [hSD]; exact ixac2_ok _
    · exact fin_ok
  have cv := vdS_eq ⟨nd, l, hl, he⟩
  have cf := flS_eq
  have c1 := boS_eq okN n
  have c2 := boS_eq okM m
  have ce := entS_eq ⟨nd, l, hl, he⟩ id
  simp only [Drs.v, rD, List.map_nil] at cv cf ce
  change W _ (RetNf _ _ _ (rD (askL ⟨nd, l, hl, he⟩ id n m).1 (askL ⟨nd, l, hl, he⟩ id n m).2.1 (askL ⟨nd, l, hl, he⟩ id n m).2.2.1 (askL ⟨nd, l, hl, he⟩ id n m).2.2.2) []) _ _ ⟨101, [(0, .agg [.int .i64 nd, .list 41 (l.map enC)]), (1, .int .u64 id), (2, .int .i64 n), (3, .int .i64 m)], []⟩
  generalize hR : askL ⟨nd, l, hl, he⟩ id n m = R
  unfold askL at hR
  dsimp only at hR
  cases hv : validD nd l with
  | false =>
    rw [if_pos hv] at hR
    subst hR
    rw [hv] at cv
    repeat' (first | refine ZV ?_ | refine ZB tm sp ?_ | refine ZH (fun hb => ?_) (fun hb => ?_) | refine ZJ (by conv => lhs; simp [cv, cf]) ?_ | refine ZA (fun hb => ?_) (fun hb => ?_))
    refine RetNf.dataE rfl (by conv => lhs; simp) (by conv => lhs; simp) (by first | rfl | simp [inlT, inlV]) ?_
    exact rD_nrm 0 [] [] 1
  | true =>
    rw [if_neg (by simp [hv])] at hR
    rw [hv] at cv
    obtain ⟨oe, oa, o1, o2⟩ := fndD_ok he hv id
    generalize okN n = b1 at *
    generalize okM m = b2 at *
    generalize fndD id l = e at *
    obtain ⟨id', ow, rd, o, wt, q⟩ := e
    obtain ⟨-, -, o3⟩ := oe
    dsimp only at oa o1 o2 o3 ce hR
    simp only [enX, ixiB, ixaB] at ce
    have c3 := conS_eq rd n (by omega)
    have c4 : SD [.sl 0 0 0 q.length, .fn (.func 64) [] [.ptr 1 0 0 0]] [{ gen := 0, kind := 2, elem := 119, size := 2, inl := true, rows := q.map askC }, { gen := 0, kind := 2, elem := 3, size := 1, inl := false, rows := [[.int .i64 n]] }] = some (.bool (q.any fun p => p.1 == n), [{ gen := 0, kind := 2, elem := 119, size := 2, inl := true, rows := q.map askC }, { gen := 0, kind := 2, elem := 3, size := 1, inl := false, rows := [[.int .i64 n]] }]) := by rw [hSD]; exact ixac2_eq (a2V n) q (by omega)
    clear hSD
    have t1 : List.take rd.length (rd.map iC) = rd.map iC := List.take_of_length_le (by simp)
    have t2 : List.take wt.length (wt.map iC) = wt.map iC := List.take_of_length_le (by simp)
    have t3 : List.take q.length (q.map askC) = q.map askC := List.take_of_length_le (by simp)
    generalize hb3 : decide (n ∈ rd) = b3 at *
    generalize hb4 : (q.any fun p => p.1 == n) = b4 at *
    obtain ⟨Q, hQ⟩ : ∃ Q, q ++ [(n, m)] = Q := ⟨_, rfl⟩
    have hQl : Q.length = q.length + 1 := by rw [← hQ]; simp
    have hQm : q.map askC ++ [[.int .i64 n, .int .i64 m]] = Q.map askC := by rw [← hQ]; simp [askC]
    have cF := finS_eq ⟨⟨nd, l, hl, he⟩, ⟨id', ow, rd, o, wt, Q⟩, by dsimp only; omega, by dsimp only; omega, oa⟩
    unfold finR at cF
    simp only [Drs.v, sesB, sesC] at cF
    rw [hQ] at hR
    generalize goM ⟨id', ow, rd, o, wt, Q⟩ nd = ms at *
    generalize Dir.goOn zOb ⟨id', ow, rd, o, wt, Q⟩ = G at *
    obtain ⟨m0, e'⟩ := G
    dsimp only at cF hR
    generalize putD e' l = L at *
    simp only [rD] at cF
    have y1 : q.length ≤ maxLen := by simp only [maxLen]; omega
    have y2 : (q.length + 1) * 16 ≤ 140737488355328 := by omega
    have y3 : q.length + 1 ≤ maxLen := by simp only [maxLen]; omega
    have y4 : q.length ≤ 9223372036854775807 := by omega
    have fq : firstRows q.length (q.map askC) = q.map askC := first_all (by simp)
    have t4 : List.take (q.length + 1) (Q.map askC) = Q.map askC := List.take_of_length_le (by simp; omega)
    repeat' (first | refine ZV ?_ | refine ZB (id := 0) tm sp ?_ | refine ZB (id := 1) tm sp ?_ | refine ZB (id := 2) tm sp ?_ | refine ZB (id := 3) tm sp ?_ | refine ZB (id := 4) tm sp ?_ | refine ZB (id := 5) tm sp ?_ | refine ZB (id := 6) tm sp ?_ | refine ZB (id := 7) tm sp ?_ | refine ZB (id := 8) tm sp ?_ | refine ZB (id := 9) tm sp ?_ | refine ZB (id := 10) tm sp ?_ | refine ZH (fun hb => ?_) (fun hb => ?_) | refine ZJ (by conv => lhs; simp [cv, cf, c1, c2, ce, c3, c4, t1, m1, y1, y2, y3, y4, fq, t3, hQm]) ?_ | refine ZA (fun hb => ?_) (fun hb => ?_))
    all_goals try (refine RetNf.dataE rfl (by conv => lhs; simp) (by conv => lhs; simp) (by first | rfl | simp [inlT, inlV]) ?_)
    all_goals try (rw [if_pos (by simp [*])] at hR; subst hR; exact rD_nrm 0 [] [] 2)
    all_goals rw [if_neg (by simp_all)] at hR
    all_goals try (rw [if_pos (by simp [*])] at hR; subst hR; exact rD_nrm 0 [] [] 8)
    all_goals rw [if_neg (by simp_all)] at hR
    all_goals subst hR
    all_goals (
      refine W.frzC 736 0 2 rfl rfl rfl rfl (by simp; rfl) (by conv => lhs; simp [frqT, frqV, frq1, frz1, AP.run, t1]) (by rfl) ?_
      simp [st]
      refine W.frzC 736 0 39 rfl rfl rfl rfl (by simp; rfl) (by conv => lhs; simp [frqT, frqV, frq1, frz1, AP.run, t2]) (by rfl) ?_
      simp [st]
      refine W.frzC 736 0 40 rfl rfl rfl rfl (by simp; rfl) (by conv => lhs; simp [frqT, frqV, frq1, frz1, AP.run, t4, hQl]) (by rfl) ?_
      simp [st])
    all_goals (
      repeat' (first | refine ZV ?_ | refine ZB tm sp ?_ | refine ZH (fun hb => ?_) (fun hb => ?_) | refine ZJ (by conv => lhs; simp [cF]) ?_ | refine ZA (fun hb => ?_) (fun hb => ?_))
      refine RetNf.dataE rfl (by conv => lhs; simp) (by conv => lhs; simp) (by first | rfl | simp [inlT, inlV]) ?_
      exact rD_nrm nd L ms 0)
end Go.Abs.Nz
namespace Go.Abs.Nz
open Go Go.Proofs Go.Abs
set_option maxRecDepth 100000
set_option maxHeartbeats 4000000
set_option linter.unusedSimpArgs false
set_option linter.unusedVariables false
attribute [local simp] instA
attribute [-simp] mkv
attribute [local simp] mkv_hd hdA_cons hdA_ob hdA_ob'
theorem rf_ok : FnC Tryz.prog 77 flS := by
  refine FnC.walkN 77 (fn := Tryz.f77) [71, 55, 56] Tryz.func77 rfl (by kernel_rfl) (fun e => ?_) (fun e => ⟨_, rD_nrm _ _ _ _⟩)
  change W _ (RetNf _ _ _ (rD 0 [] [] e) []) _ _ ⟨7, [(0, .int .i64 e)], []⟩
  repeat' (first | refine ZV ?_ | refine ZB tm no_specs ?_ | refine ZH (fun hb => ?_) (fun hb => ?_) | refine ZJ (by conv => lhs; simp) ?_ | refine ZA (fun hb => ?_) (fun hb => ?_))
  exact RetNf.dataE rfl (by conv => lhs; simp) (by conv => lhs; simp) (by first | rfl | simp [inlT, inlV]) (rD_nrm0 e)
noncomputable def r2S (a : Int) : SpecFn := mkS2 (fun n : Int => ([.int .i64 n, .ptr 0 0 0 0], [{ gen := 0, kind := 2, elem := 3, size := 1, inl := false, rows := [iC a] }])) fun n => (.bool (n == a), [{ gen := 0, kind := 2, elem := 3, size := 1, inl := false, rows := [iC a] }])
theorem r2S_eq (a n : Int) : r2S a [.int .i64 n, .ptr 0 0 0 0] [{ gen := 0, kind := 2, elem := 3, size := 1, inl := false, rows := [iC a] }] = some (.bool (n == a), [{ gen := 0, kind := 2, elem := 3, size := 1, inl := false, rows := [iC a] }]) :=
  mkS2_eq (enc := fun n : Int => ([AV.int .i64 n, .ptr 0 0 0 0], [{ gen := 0, kind := 2, elem := 3, size := 1, inl := false, rows := [iC a] }])) (res := fun n => (.bool (n == a), [{ gen := 0, kind := 2, elem := 3, size := 1, inl := false, rows := [iC a] }])) (fun x y h => by
    simp only [Prod.mk.injEq, List.cons.injEq, AV.int.injEq, true_and, and_true] at h
    rw [h]) n
theorem r2_ok (a : Int) : FnC Tryz.prog 78 (r2S a) := by
  refine FnC.walkB 78 (fn := Tryz.f78) Tryz.func78 rfl (by kernel_rfl) (fun x b hb => by simp at hb; rw [hb]) fun n => ?_
  change W _ (RetB _ _ 1 (.bool (n == a)) [{ gen := 0, kind := 2, elem := 3, size := 1, inl := false, rows := [[.int .i64 a]] }]) _ _ ⟨7, [(0, .int .i64 n), (1, .ptr 0 0 0 0)], [(0, { gen := 0, kind := 2, elem := 3, size := 1, inl := false, rows := [[.int .i64 a]] })]⟩
  repeat' (first | refine ZV ?_ | refine ZB tm no_specs ?_ | refine ZH (fun hb => ?_) (fun hb => ?_) | refine ZJ (by conv => lhs; simp) ?_ | refine ZA (fun hb => ?_) (fun hb => ?_))
  exact RetB.raw [0] rfl (by conv => lhs; simp) (by decide) (by simp) (by simp [renL]) (by simp)
noncomputable def r2V (a : Int) : ixiW := ⟨78, by simp, by simp, fun n => n == a, 3, 1, iC a, by simp [iC, refsL, AV.refs], by simp [iC, renL, AV.ren], r2S a, r2_ok a, r2S_eq a⟩
noncomputable def retD (e : En) (n : Int) (o : Ob) : En := if e.owner = n then ⟨e.id, -1, e.readers, o, Dir.oth e.waiting n, e.queue⟩ else ⟨e.id, e.owner, Dir.oth e.readers n, e.obj, Dir.oth e.waiting n, e.queue⟩
noncomputable def retL (d : Drs) (id n : Int) (o : Ob) : Int × List En × List Msg × Int :=
  if validD d.node d.ents = false then (0, [], [], 1) else
    let e := fndD id d.ents
    if (id == 0 || (!okN n || (e.owner != n && !decide (n ∈ e.readers)))) = true then (0, [], [], 8) else
      if (e.owner == n && !(oid o == id || zO? o)) = true then (0, [], [], 10) else
        (d.node, putD (Dir.goOn zOb (retD e n o)).2 d.ents, goM (retD e n o) d.node, 0)
noncomputable def retS : SpecFn := mkS (fun d : Drs × Int × Int × Ob => [d.1.v, .int .u64 d.2.1, .int .i64 d.2.2.1, .agg d.2.2.2.cells]) fun d => (rD (retL d.1 d.2.1 d.2.2.1 d.2.2.2).1 (retL d.1 d.2.1 d.2.2.1 d.2.2.2).2.1 (retL d.1 d.2.1 d.2.2.1 d.2.2.2).2.2.1 (retL d.1 d.2.1 d.2.2.1 d.2.2.2).2.2.2, [])
theorem retS_eq (d : Drs) (id n : Int) (o : Ob) : retS [d.v, .int .u64 id, .int .i64 n, .agg o.cells] [] = some (rD (retL d id n o).1 (retL d id n o).2.1 (retL d id n o).2.2.1 (retL d id n o).2.2.2, []) :=
  mkS_eq (enc := fun d : Drs × Int × Int × Ob => [d.1.v, AV.int .u64 d.2.1, .int .i64 d.2.2.1, .agg d.2.2.2.cells]) (res := fun d => (rD (retL d.1 d.2.1 d.2.2.1 d.2.2.2).1 (retL d.1 d.2.1 d.2.2.1 d.2.2.2).2.1 (retL d.1 d.2.1 d.2.2.1 d.2.2.2).2.2.1 (retL d.1 d.2.1 d.2.2.1 d.2.2.2).2.2.2, [])) (fun x y h => by
    obtain ⟨a, b, c, e⟩ := x
    obtain ⟨a', b', c', e'⟩ := y
    simp only [List.cons.injEq, AV.int.injEq, AV.agg.injEq, true_and, and_true] at h
    obtain ⟨h, rfl, rfl, h2⟩ := h
    cases Drs.v_inj h
    cases Td.ext h2
    rfl) (d, id, n, o)
theorem ret_ok : FnC Tryz.prog 37 retS := by
  refine FnC.walkN 37 (fn := Tryz.f37) [71, 55, 56] Tryz.func37 rfl (by kernel_rfl) (fun x => ?_) (fun x => ⟨_, rD_nrm _ _ _ _⟩)
  obtain ⟨⟨nd, l, hl, he⟩, id, n, ob⟩ := x
  obtain ⟨SD, hSD⟩ : ∃ S, S = dli (r2V n) := ⟨_, rfl⟩
  have sp : ∀ x ∈ ([(39, ⟨1, vdS⟩), (77, ⟨1, flS⟩), (62, ⟨1, boS okN⟩), (35, ⟨1, entS⟩), (65, ⟨0, conS⟩), (79, ⟨1, fitS⟩), (45, ⟨1, cobS⟩), (80, ⟨3, SD⟩), (67, ⟨3, finS⟩)] : NL Spec), FnC Tryz.prog x.1 x.2.fn := by
    simp only [List.mem_cons, List.not_mem_nil, or_false]
    rintro x (rfl | rfl | rfl | rfl | rfl | rfl | rfl | rfl | rfl)
    · exact vdp_ok
    · exact rf_ok
    · exact nod_ok
    · exact ent_ok
    · exact con_ok
    · exact fit2_ok
    · exact cob_ok
    · rw [hSD]; exact dli_ok _
    · exact fin_ok
  have cv := vdS_eq ⟨nd, l, hl, he⟩
  have cf := flS_eq
  have c1 := boS_eq okN n
  have c2 := fitS_eq ob id
  have co := cobS_eq ob
  have ce := entS_eq ⟨nd, l, hl, he⟩ id
  simp only [Drs.v, rD, List.map_nil] at cv cf ce
  change W _ (RetNf _ _ _ (rD (retL ⟨nd, l, hl, he⟩ id n ob).1 (retL ⟨nd, l, hl, he⟩ id n ob).2.1 (retL ⟨nd, l, hl, he⟩ id n ob).2.2.1 (retL ⟨nd, l, hl, he⟩ id n ob).2.2.2) []) _ _ ⟨127, [(0, .agg [.int .i64 nd, .list 41 (l.map enC)]), (1, .int .u64 id), (2, .int .i64 n), (3, .agg ob.cells)], []⟩
  generalize hR : retL ⟨nd, l, hl, he⟩ id n ob = R
  unfold retL at hR
  dsimp only at hR
  cases hv : validD nd l with
  | false =>
    rw [if_pos hv] at hR
    subst hR
    rw [hv] at cv
    repeat' (first | refine ZV ?_ | refine ZB tm sp ?_ | refine ZH (fun hb => ?_) (fun hb => ?_) | refine ZJ (by conv => lhs; simp [cv, cf]) ?_ | refine ZA (fun hb => ?_) (fun hb => ?_))
    refine RetNf.dataE rfl (by conv => lhs; simp) (by conv => lhs; simp) (by first | rfl | simp [inlT, inlV]) ?_
    exact rD_nrm 0 [] [] 1
  | true =>
    rw [if_neg (by simp [hv])] at hR
    rw [hv] at cv
    obtain ⟨oe, oa, o1, o2⟩ := fndD_ok he hv id
    generalize okN n = b1 at *
    generalize (oid ob == id || zO? ob) = b2 at *
    generalize fndD id l = e at *
    obtain ⟨id', ow, rd, o, wt, q⟩ := e
    obtain ⟨-, -, o3⟩ := oe
    dsimp only at oa o1 o2 o3 ce hR
    simp only [enX, ixiB, ixaB] at ce
    have c3 := conS_eq rd n (by omega)
    have cd : ∀ (l : List Int), l.length ≤ 9100 → SD [.sl 0 0 0 l.length, .fn (.func 78) [] [.ptr 1 0 0 0]] [{ gen := 0, kind := 2, elem := 3, size := 1, inl := true, rows := l.map iC }, { gen := 0, kind := 2, elem := 3, size := 1, inl := false, rows := [[.int .i64 n]] }] = some (.sl 0 1 0 (Dir.oth l n).length, [{ gen := 1, kind := 2, elem := 3, size := 1, inl := true, rows := (Dir.oth l n).map iC }, { gen := 0, kind := 2, elem := 3, size := 1, inl := false, rows := [[.int .i64 n]] }]) := fun l h => by rw [hSD]; exact dli_eq (r2V n) l h
    clear hSD
    have d1 := cd rd (by omega)
    have d2 := cd wt (by omega)
    have l1 : (Dir.oth rd n).length ≤ rd.length := List.length_filter_le _ _
    have l2 : (Dir.oth wt n).length ≤ wt.length := List.length_filter_le _ _
    have oa2 := Dir.asc_oth oa n
    generalize hb3 : decide (n ∈ rd) = b3 at *
    unfold retD at hR
    dsimp only at hR
    generalize Dir.oth wt n = wt' at *
    have t1 : List.take rd.length (rd.map iC) = rd.map iC := List.take_of_length_le (by simp)
    have t2 : List.take wt'.length (wt'.map iC) = wt'.map iC := List.take_of_length_le (by simp)
    have t3 : List.take q.length (q.map askC) = q.map askC := List.take_of_length_le (by simp)
    by_cases ho : ow = n
    · subst ho
      have eo : (ow != ow) = false := by simp
      have eo2 : (ow == ow) = true := by simp
      rw [eo, eo2] at hR
      rw [if_pos rfl] at hR
      have cF := finS_eq ⟨⟨nd, l, hl, he⟩, ⟨id', -1, rd, ob, wt', q⟩, by dsimp only; omega, by dsimp only; omega, oa⟩
      unfold finR at cF
      simp only [Drs.v, sesB, sesC] at cF
      generalize goM ⟨id', -1, rd, ob, wt', q⟩ nd = ms at *
      generalize Dir.goOn zOb ⟨id', -1, rd, ob, wt', q⟩ = G at *
      obtain ⟨m0, e'⟩ := G
      dsimp only at cF hR
      generalize putD e' l = L at *
      simp only [rD] at cF
      repeat' (first | refine ZV ?_ | refine ZB (id := 0) tm sp ?_ | refine ZB (id := 1) tm sp ?_ | refine ZB (id := 2) tm sp ?_ | refine ZB (id := 3) tm sp ?_ | refine ZB (id := 4) tm sp ?_ | refine ZB (id := 5) tm sp ?_ | refine ZB (id := 6) tm sp ?_ | refine ZB (id := 7) tm sp ?_ | refine ZB (id := 8) tm sp ?_ | refine ZB (id := 9) tm sp ?_ | refine ZB (id := 10) tm sp ?_ | refine ZB (id := 11) tm sp ?_ | refine ZB (id := 12) tm sp ?_ | refine ZB (id := 13) tm sp ?_ | refine ZH (fun hb => ?_) (fun hb => ?_) | refine ZJ (by conv => lhs; simp [cv, cf, c1, c2, ce, c3, co, d1, d2, eo, eo2, t1]) ?_ | refine ZA (fun hb => ?_) (fun hb => ?_))
      all_goals try (refine RetNf.dataE rfl (by conv => lhs; simp) (by conv => lhs; simp) (by first | rfl | simp [inlT, inlV]) ?_)
      all_goals try (rw [if_pos (by simp [*])] at hR; subst hR; exact rD_nrm 0 [] [] 8)
      all_goals rw [if_neg (by simp_all)] at hR
      all_goals try (rw [if_pos (by simp [*])] at hR; subst hR; exact rD_nrm 0 [] [] 10)
      all_goals rw [if_neg (by simp_all)] at hR
      all_goals subst hR
      all_goals (
        refine W.frzC 464 0 2 rfl rfl rfl rfl (by simp; rfl) (by conv => lhs; simp [frqT, frqV, frq1, frz1, AP.run, t1]) (by rfl) ?_
        simp [st]
        refine W.frzC 464 0 39 rfl rfl rfl rfl (by simp; rfl) (by conv => lhs; simp [frqT, frqV, frq1, frz1, AP.run, t2]) (by rfl) ?_
        simp [st]
        refine W.frzC 464 0 40 rfl rfl rfl rfl (by simp; rfl) (by conv => lhs; simp [frqT, frqV, frq1, frz1, AP.run, t3]) (by rfl) ?_
        simp [st])
      all_goals (
        repeat' (first | refine ZV ?_ | refine ZB tm sp ?_ | refine ZH (fun hb => ?_) (fun hb => ?_) | refine ZJ (by conv => lhs; simp [cF]) ?_ | refine ZA (fun hb => ?_) (fun hb => ?_))
        refine RetNf.dataE rfl (by conv => lhs; simp) (by conv => lhs; simp) (by first | rfl | simp [inlT, inlV]) ?_
        exact rD_nrm nd L ms 0)
    · have eo : (ow != n) = true := by simp [ho]
      have eo2 : (ow == n) = false := by simp [ho]
      rw [eo, eo2] at hR
      rw [if_neg ho] at hR
      generalize Dir.oth rd n = rd' at *
      have t4 : List.take rd'.length (rd'.map iC) = rd'.map iC := List.take_of_length_le (by simp)
      have cF := finS_eq ⟨⟨nd, l, hl, he⟩, ⟨id', ow, rd', o, wt', q⟩, by dsimp only; omega, by dsimp only; omega, oa2⟩
      unfold finR at cF
      simp only [Drs.v, sesB, sesC] at cF
      generalize goM ⟨id', ow, rd', o, wt', q⟩ nd = ms at *
      generalize Dir.goOn zOb ⟨id', ow, rd', o, wt', q⟩ = G at *
      obtain ⟨m0, e'⟩ := G
      dsimp only at cF hR
      generalize putD e' l = L at *
      simp only [rD] at cF
      repeat' (first | refine ZV ?_ | refine ZB (id := 0) tm sp ?_ | refine ZB (id := 1) tm sp ?_ | refine ZB (id := 2) tm sp ?_ | refine ZB (id := 3) tm sp ?_ | refine ZB (id := 4) tm sp ?_ | refine ZB (id := 5) tm sp ?_ | refine ZB (id := 6) tm sp ?_ | refine ZB (id := 7) tm sp ?_ | refine ZB (id := 8) tm sp ?_ | refine ZB (id := 9) tm sp ?_ | refine ZB (id := 10) tm sp ?_ | refine ZB (id := 11) tm sp ?_ | refine ZB (id := 12) tm sp ?_ | refine ZB (id := 13) tm sp ?_ | refine ZH (fun hb => ?_) (fun hb => ?_) | refine ZJ (by conv => lhs; simp [cv, cf, c1, c2, ce, c3, co, d1, d2, eo, eo2, t1]) ?_ | refine ZA (fun hb => ?_) (fun hb => ?_))
      all_goals try (refine RetNf.dataE rfl (by conv => lhs; simp) (by conv => lhs; simp) (by first | rfl | simp [inlT, inlV]) ?_)
      all_goals try (rw [if_pos (by simp [*])] at hR; subst hR; exact rD_nrm 0 [] [] 8)
      all_goals rw [if_neg (by simp_all)] at hR
      all_goals try (rw [if_pos (by simp [*])] at hR; subst hR; exact rD_nrm 0 [] [] 10)
      all_goals rw [if_neg (by simp_all)] at hR
      all_goals subst hR
      all_goals (
        refine W.frzC 464 0 2 rfl rfl rfl rfl (by simp; rfl) (by conv => lhs; simp [frqT, frqV, frq1, frz1, AP.run, t4]) (by rfl) ?_
        simp [st]
        refine W.frzC 464 0 39 rfl rfl rfl rfl (by simp; rfl) (by conv => lhs; simp [frqT, frqV, frq1, frz1, AP.run, t2]) (by rfl) ?_
        simp [st]
        refine W.frzC 464 0 40 rfl rfl rfl rfl (by simp; rfl) (by conv => lhs; simp [frqT, frqV, frq1, frz1, AP.run, t3]) (by rfl) ?_
        simp [st])
      all_goals (
        repeat' (first | refine ZV ?_ | refine ZB tm sp ?_ | refine ZH (fun hb => ?_) (fun hb => ?_) | refine ZJ (by conv => lhs; simp [cF]) ?_ | refine ZA (fun hb => ?_) (fun hb => ?_))
        refine RetNf.dataE rfl (by conv => lhs; simp) (by conv => lhs; simp) (by first | rfl | simp [inlT, inlV]) ?_
        exact rD_nrm nd L ms 0)
end Go.Abs.Nz
namespace Go.Abs.Nz
open Go Go.Proofs Go.Abs
set_option maxRecDepth 100000
set_option maxHeartbeats 4000000
set_option linter.unusedSimpArgs false
set_option linter.unusedVariables false
theorem tNV : Tryz.prog.funcs.all (fun fn => !(fn.name == "runtime.NumGoroutine")) = true := by kernel_rfl
def sort1 : SpecFn := fun args B => match args, B with
  | [.sl 0 0 0 1], [⟨0, 2, 3, 1, true, [[.int .i64 m]]⟩] => some (.tup [], [⟨0, 2, 3, 1, true, [[.int .i64 m]]⟩])
  | _, _ => none
theorem sort1_ok : FnC Tryz.prog 153 sort1 := by
  refine ⟨sort_ok.fn, fun args B r B' h => sort_ok.calls args B r B' ?_⟩
  unfold sort1 at h
  split at h
  · rename_i m
    cases h
    have hs : srt [m] = [m] := List.perm_singleton.1 (srt_perm [m])
    have := sortS_eq [m] (by simp) (by simp)
    rw [hs] at this
    exact this
  · cases h
def base : NL SpecFn := [(120, cloneC 3 1 8), (121, cloneC 119 2 16), (117, insertC 85 41 552), (153, sort1)]
theorem base_ok : ∀ f S, lk base f = some S → FnC Tryz.prog f S := by
  intro f S h
  simp only [base, lk] at h
  split at h
  · rename_i e; subst e; cases h; exact clone120_ok
  split at h
  · rename_i e; subst e; cases h; exact clone121_ok
  split at h
  · rename_i e; subst e; cases h; exact insert117_ok
  split at h
  · rename_i e; subst e; cases h; exact sort1_ok
  · cases h
noncomputable def run (f : FuncId) : SpecFn := runB Tryz.prog base 1000 40 f
theorem run_ok (f : FuncId) {fn : Func} {body : Code} (hf : Tryz.prog.funcs[f]? = some fn) (hb : fn.body = some body) : FnC Tryz.prog f (run f) := runB_ok base_ok tm tNV 40 f hf hb
noncomputable def pf (f : FuncId) : SpecFn := pureS (run f)
theorem pf_ok (f : FuncId) {fn : Func} {body : Code} (hf : Tryz.prog.funcs[f]? = some fn) (hb : fn.body = some body) : FnC Tryz.prog f (pf f) := FnC.pure (run_ok f hf hb)
theorem sane_eq : pf 25 [] [] = some (.bool true, []) := by kernel_rfl
theorem saneD_ex : ∃ S, FnC Tryz.prog 25 S ∧ S [] [] = some (.bool true, []) := ⟨_, pf_ok 25 Tryz.func25 rfl, sane_eq⟩
end Go.Abs.Nz
namespace Go.Abs.Nz
open Go Go.Proofs Go.Abs
set_option maxRecDepth 100000
set_option maxHeartbeats 4000000
set_option linter.unusedSimpArgs false
set_option linter.unusedVariables false
attribute [local simp] instA
attribute [-simp] mkv
attribute [local simp] mkv_hd hdA_cons hdA_ob hdA_ob'
@[simp] def hdC (h : Dir.Hd) : List AV := [.int .i64 (h.mode 0), .int .i64 (h.mode 1), .int .i64 (h.mode 2), .int .i64 (h.mode 3), .bool (h.demand 0), .bool (h.demand 1), .bool (h.demand 2), .bool (h.demand 3), .int .i64 (h.asked 0), .int .i64 (h.asked 1), .int .i64 (h.asked 2), .int .i64 (h.asked 3)]
noncomputable def mgs (nd id : Int) (l : List (Dir.Mg Ob)) : List AV := [.list 45 ((l.map (mgM nd id)).map Msg.v)]
end Go.Abs.Nz
namespace Go.Abs.Nz
open Go Go.Proofs Go.Abs
set_option maxRecDepth 100000
set_option maxHeartbeats 4000000
set_option linter.unusedSimpArgs false
set_option linter.unusedVariables false
theorem drs_nrmV (n : Int) (l : List En) : nrmV Tryz.prog 71 (.agg [.int .i64 n, .list 41 (l.map enC)]) = .agg [.int .i64 n, .list 41 (l.map enC)] := by
  simp only [nrmV, drLeafs, nrmL, uE, nrmRows_map enC_nrm]
def Pz (id : Int) (o : Ob) : Prop := (oid o == id || zO? o) = true
end Go.Abs.Nz
