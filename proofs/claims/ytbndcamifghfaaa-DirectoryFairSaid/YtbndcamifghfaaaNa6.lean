/- Asking for an object. Conditions: none. -/
import Derived.Test.YtbndcamifghfaaaNa5
import Derived.Test.YtbndcamifghfaaaAb6
import Derived.Test.YtbndcamifghfaaaAb8
import Derived.Test.YtbndcamifghfaaaNa3
import Derived.Test.YtbndcamifghfaaaNa4
namespace Go.Abs.Na
open Go Go.Proofs Go.Abs
set_option maxRecDepth 100000
set_option maxHeartbeats 4000000
set_option linter.unusedSimpArgs false
set_option linter.unusedVariables false
attribute [local simp] instA
attribute [-simp] mkv
attribute [local simp] mkv_hd hdA_cons hdA_ob hdA_ob'
/-! ### Failing -/
noncomputable def flS : SpecFn := mkS (fun e : Int => [.int .i64 e]) fun e => (rD 0 [] [] e, [])
theorem flS_eq (e : Int) : flS [.int .i64 e] [] = some (rD 0 [] [] e, []) :=
  mkS_eq (enc := fun e : Int => [AV.int .i64 e]) (res := fun e => (rD 0 [] [] e, [])) (fun x y h => by
    simp only [List.cons.injEq, AV.int.injEq, true_and, and_true] at h
    rw [h]) e
theorem af_ok : FnC Try.prog 102 flS := by
  refine FnC.walkN 102 (fn := Try.f102) [95, 87, 51] Try.func102 rfl (by kernel_rfl) (fun e => ?_) (fun e => ⟨_, rD_nrm _ _ _ _⟩)
  change W _ (RetNf _ _ _ (rD 0 [] [] e) []) _ _ ⟨7, [(0, .int .i64 e)], []⟩
  repeat' (first | refine ZV ?_ | refine ZB tm no_specs ?_ | refine ZH (fun hb => ?_) (fun hb => ?_) | refine ZJ (by conv => lhs; simp) ?_ | refine ZA (fun hb => ?_) (fun hb => ?_))
  exact RetNf.dataE rfl (by conv => lhs; simp) (by conv => lhs; simp) (by first | rfl | simp [inlT, inlV]) (rD_nrm0 e)
/-! ### Whether a node has asked -/
noncomputable def a2S (n : Int) : SpecFn := mkS2 (fun p : Int × Int => ([.agg (askC p), .ptr 0 0 0 0], [{ gen := 0, kind := 2, elem := 3, size := 1, inl := false, rows := [iC n] }])) fun p => (.bool (p.1 == n), [{ gen := 0, kind := 2, elem := 3, size := 1, inl := false, rows := [iC n] }])
theorem a2S_eq (n : Int) (p : Int × Int) : a2S n [.agg (askC p), .ptr 0 0 0 0] [{ gen := 0, kind := 2, elem := 3, size := 1, inl := false, rows := [iC n] }] = some (.bool (p.1 == n), [{ gen := 0, kind := 2, elem := 3, size := 1, inl := false, rows := [iC n] }]) :=
  mkS2_eq (enc := fun p : Int × Int => ([AV.agg (askC p), .ptr 0 0 0 0], [{ gen := 0, kind := 2, elem := 3, size := 1, inl := false, rows := [iC n] }])) (res := fun p => (.bool (p.1 == n), [{ gen := 0, kind := 2, elem := 3, size := 1, inl := false, rows := [iC n] }])) (fun x y h => by
    simp only [askC, Prod.mk.injEq, List.cons.injEq, AV.agg.injEq, AV.int.injEq, true_and, and_true] at h
    rw [show x = y from Prod.ext h.1 h.2]) p
theorem a2_ok (n : Int) : FnC Try.prog 105 (a2S n) := by
  refine FnC.walkB 105 (fn := Try.f105) Try.func105 rfl (by kernel_rfl) (fun x b hb => by simp at hb; rw [hb]) fun p => ?_
  obtain ⟨a, m⟩ := p
  change W _ (RetB _ _ 1 (.bool (a == n)) [{ gen := 0, kind := 2, elem := 3, size := 1, inl := false, rows := [[.int .i64 n]] }]) _ _ ⟨8, [(0, .agg [.int .i64 a, .int .i64 m]), (1, .ptr 0 0 0 0)], [(0, { gen := 0, kind := 2, elem := 3, size := 1, inl := false, rows := [[.int .i64 n]] })]⟩
  repeat' (first | refine ZV ?_ | refine ZB tm no_specs ?_ | refine ZH (fun hb => ?_) (fun hb => ?_) | refine ZJ (by conv => lhs; simp) ?_ | refine ZA (fun hb => ?_) (fun hb => ?_))
  exact RetB.raw [0] rfl (by conv => lhs; simp) (by decide) (by simp) (by simp [renL]) (by simp)
noncomputable def a2V (n : Int) : ixaW := ⟨105, by simp, by simp, fun p => p.1 == n, 3, 1, iC n, by simp [iC, refsL, AV.refs], by simp [iC, renL, AV.ren], a2S n, a2_ok n, a2S_eq n⟩
/-! ### What is known of a valid directory's entries -/
theorem fineB_asc {e : En} (h : fineB e = true) : ascN e.readers = true ∧ ascN e.waiting = true := by
  unfold fineB at h
  simp only [Bool.and_eq_true] at h
  exact ⟨h.2.2.2.1, h.2.2.2.2.1⟩
theorem asc_len {l : List Int} (h : ascN l = true) : l.length ≤ 128 := by
  obtain ⟨h1, h2⟩ := ascN_iff.1 h
  have hn : l.Nodup := h2.imp fun h => by omega
  have := Dir.nodup_len (S := (List.range 128).map Int.ofNat) hn (fun x hx => by
    have hx := h1 x hx
    simp only [okN, Bool.and_eq_true, decide_eq_true_eq] at hx
    rw [List.mem_map]
    exact ⟨x.toNat, List.mem_range.2 (by omega), by simp; omega⟩)
  simpa using this
theorem validD_fine {nd : Int} {l : List En} (h : validD nd l = true) : ∀ e ∈ l, fineB e = true := fun e he => by
  obtain ⟨k, hk, rfl⟩ := List.mem_iff_getElem.1 he
  unfold validD at h
  rw [Bool.and_eq_true, List.all_eq_true] at h
  have := h.1 k (List.mem_range.2 hk)
  unfold goodD at this
  rw [List.getElem?_eq_getElem hk] at this
  simp only [Bool.and_eq_true] at this
  exact this.1
theorem fndD_ok {nd : Int} {l : List En} (hl : ∀ e ∈ l, okE e) (h : validD nd l = true) (id : Int) : okE (fndD id l) ∧ Dir.Asc (fndD id l).readers ∧ (fndD id l).readers.length ≤ 128 ∧ (fndD id l).waiting.length ≤ 128 := by
  unfold fndD
  cases hf : l.find? (fun e => e.id == id) with
  | none => exact ⟨⟨Nat.zero_le _, Nat.zero_le _, Nat.zero_le _⟩, List.Pairwise.nil, Nat.zero_le _, Nat.zero_le _⟩
  | some e =>
    have hm := List.mem_of_find?_eq_some hf
    obtain ⟨a1, a2⟩ := fineB_asc (validD_fine h e hm)
    exact ⟨hl e hm, (ascN_iff.1 a1).2, asc_len a1, asc_len a2⟩
/-! ### Asking -/
noncomputable def askL (d : Drs) (id n m : Int) : Int × List En × List Msg × Int :=
  if validD d.node d.ents = false then (0, [], [], 1) else if (id == 0 || (!okN n || !okM m)) = true then (0, [], [], 2) else
    let e := fndD id d.ents
    if (e.owner == n || ((m == 1 && decide (n ∈ e.readers)) || e.queue.any fun p => p.1 == n)) = true then (0, [], [], 8) else
      let e1 : En := { e with queue := e.queue ++ [(n, m)] }
      (d.node, putD (Dir.goOn zOb e1).2 d.ents, goM e1 d.node, 0)
noncomputable def askS : SpecFn := mkS (fun d : Drs × Int × Int × Int => [d.1.v, .int .u64 d.2.1, .int .i64 d.2.2.1, .int .i64 d.2.2.2]) fun d => (rD (askL d.1 d.2.1 d.2.2.1 d.2.2.2).1 (askL d.1 d.2.1 d.2.2.1 d.2.2.2).2.1 (askL d.1 d.2.1 d.2.2.1 d.2.2.2).2.2.1 (askL d.1 d.2.1 d.2.2.1 d.2.2.2).2.2.2, [])
theorem askS_eq (d : Drs) (id n m : Int) : askS [d.v, .int .u64 id, .int .i64 n, .int .i64 m] [] = some (rD (askL d id n m).1 (askL d id n m).2.1 (askL d id n m).2.2.1 (askL d id n m).2.2.2, []) :=
  mkS_eq (enc := fun d : Drs × Int × Int × Int => [d.1.v, AV.int .u64 d.2.1, .int .i64 d.2.2.1, .int .i64 d.2.2.2]) (res := fun d => (rD (askL d.1 d.2.1 d.2.2.1 d.2.2.2).1 (askL d.1 d.2.1 d.2.2.1 d.2.2.2).2.1 (askL d.1 d.2.1 d.2.2.1 d.2.2.2).2.2.1 (askL d.1 d.2.1 d.2.2.1 d.2.2.2).2.2.2, [])) (fun x y h => by
    obtain ⟨a, b, c, e⟩ := x
    obtain ⟨a', b', c', e'⟩ := y
    simp only [List.cons.injEq, AV.int.injEq, true_and, and_true] at h
    obtain ⟨h, rfl, rfl, rfl⟩ := h
    cases Drs.v_inj h
    rfl) (d, id, n, m)
theorem ask_ok : FnC Try.prog 45 askS := by
  refine FnC.walkN 45 (fn := Try.f45) [95, 87, 51] Try.func45 rfl (by kernel_rfl) (fun x => ?_) (fun x => ⟨_, rD_nrm _ _ _ _⟩)
  obtain ⟨⟨nd, l, hl, he⟩, id, n, m⟩ := x
  obtain ⟨SD, hSD⟩ : ∃ S, S = ixac2 (a2V n) := ⟨_, rfl⟩
  have sp : ∀ x ∈ ([(48, ⟨1, vdS⟩), (102, ⟨1, flS⟩), (103, ⟨1, boS okN⟩), (104, ⟨1, boS okM⟩), (49, ⟨1, entS⟩), (106, ⟨0, conS⟩), (107, ⟨3, SD⟩), (108, ⟨3, finS⟩)] : NL Spec), FnC Try.prog x.1 x.2.fn := by
    simp only [List.mem_cons, List.not_mem_nil, or_false]
    rintro x (rfl | rfl | rfl | rfl | rfl | rfl | rfl | rfl)
    · exact vdp_ok
    · exact af_ok
    · exact nod_ok
    · exact mod_ok
    · exact ent_ok
    · exact con_ok
    · rw [hSD]; exact ixac2_ok _
    · exact fin_ok
  have cv := vdS_eq ⟨nd, l, hl, he⟩
  have cf := flS_eq
  have c1 := boS_eq okN n
  have c2 := boS_eq okM m
  have ce := entS_eq ⟨nd, l, hl, he⟩ id
  simp only [Drs.v, rD, List.map_nil] at cv cf ce
  change W _ (RetNf _ _ _ (rD (askL ⟨nd, l, hl, he⟩ id n m).1 (askL ⟨nd, l, hl, he⟩ id n m).2.1 (askL ⟨nd, l, hl, he⟩ id n m).2.2.1 (askL ⟨nd, l, hl, he⟩ id n m).2.2.2) []) _ _ ⟨101, [(0, .agg [.int .i64 nd, .list 41 (l.map enC)]), (1, .int .u64 id), (2, .int .i64 n), (3, .int .i64 m)], []⟩
  generalize hR : askL ⟨nd, l, hl, he⟩ id n m = R
  unfold askL at hR
  dsimp only at hR
  cases hv : validD nd l with
  | false =>
    rw [if_pos hv] at hR
    subst hR
    rw [hv] at cv
    repeat' (first | refine ZV ?_ | refine ZB tm sp ?_ | refine ZH (fun hb => ?_) (fun hb => ?_) | refine ZJ (by conv => lhs; simp [cv, cf]) ?_ | refine ZA (fun hb => ?_) (fun hb => ?_))
    refine RetNf.dataE rfl (by conv => lhs; simp) (by conv => lhs; simp) (by first | rfl | simp [inlT, inlV]) ?_
    exact rD_nrm 0 [] [] 1
  | true =>
    rw [if_neg (by simp [hv])] at hR
    rw [hv] at cv
    obtain ⟨oe, oa, o1, o2⟩ := fndD_ok he hv id
    generalize okN n = b1 at *
    generalize okM m = b2 at *
    generalize fndD id l = e at *
    obtain ⟨id', ow, rd, o, wt, q⟩ := e
    obtain ⟨-, -, o3⟩ := oe
    dsimp only at oa o1 o2 o3 ce hR
    simp only [enX, ixiB, ixaB] at ce
    have c3 := conS_eq rd n (by omega)
    have c4 : SD [.sl 0 0 0 q.length, .fn (.func 105) [] [.ptr 1 0 0 0]] [{ gen := 0, kind := 2, elem := 120, size := 2, inl := true, rows := q.map askC }, { gen := 0, kind := 2, elem := 3, size := 1, inl := false, rows := [[.int .i64 n]] }] = some (.bool (q.any fun p => p.1 == n), [{ gen := 0, kind := 2, elem := 120, size := 2, inl := true, rows := q.map askC }, { gen := 0, kind := 2, elem := 3, size := 1, inl := false, rows := [[.int .i64 n]] }]) := by rw [hSD]; exact ixac2_eq (a2V n) q (by omega)
    clear hSD
    have t1 : List.take rd.length (rd.map iC) = rd.map iC := List.take_of_length_le (by simp)
    have t2 : List.take wt.length (wt.map iC) = wt.map iC := List.take_of_length_le (by simp)
    have t3 : List.take q.length (q.map askC) = q.map askC := List.take_of_length_le (by simp)
    generalize hb3 : decide (n ∈ rd) = b3 at *
    generalize hb4 : (q.any fun p => p.1 == n) = b4 at *
    obtain ⟨Q, hQ⟩ : ∃ Q, q ++ [(n, m)] = Q := ⟨_, rfl⟩
    have hQl : Q.length = q.length + 1 := by rw [← hQ]; simp
    have hQm : q.map askC ++ [[.int .i64 n, .int .i64 m]] = Q.map askC := by rw [← hQ]; simp [askC]
    have cF := finS_eq ⟨⟨nd, l, hl, he⟩, ⟨id', ow, rd, o, wt, Q⟩, by dsimp only; omega, by dsimp only; omega, oa⟩
    unfold finR at cF
    simp only [Drs.v, sesB, sesC] at cF
    rw [hQ] at hR
    generalize goM ⟨id', ow, rd, o, wt, Q⟩ nd = ms at *
    generalize Dir.goOn zOb ⟨id', ow, rd, o, wt, Q⟩ = G at *
    obtain ⟨m0, e'⟩ := G
    dsimp only at cF hR
    generalize putD e' l = L at *
    simp only [rD] at cF
    have y1 : q.length ≤ maxLen := by simp only [maxLen]; omega
    have y2 : (q.length + 1) * 16 ≤ 140737488355328 := by omega
    have y3 : q.length + 1 ≤ maxLen := by simp only [maxLen]; omega
    have y4 : q.length ≤ 9223372036854775807 := by omega
    have fq : firstRows q.length (q.map askC) = q.map askC := first_all (by simp)
    have t4 : List.take (q.length + 1) (Q.map askC) = Q.map askC := List.take_of_length_le (by simp; omega)
    repeat' (first | refine ZV ?_ | refine ZB (id := 0) tm sp ?_ | refine ZB (id := 1) tm sp ?_ | refine ZB (id := 2) tm sp ?_ | refine ZB (id := 3) tm sp ?_ | refine ZB (id := 4) tm sp ?_ | refine ZB (id := 5) tm sp ?_ | refine ZB (id := 6) tm sp ?_ | refine ZB (id := 7) tm sp ?_ | refine ZB (id := 8) tm sp ?_ | refine ZB (id := 9) tm sp ?_ | refine ZB (id := 10) tm sp ?_ | refine ZH (fun hb => ?_) (fun hb => ?_) | refine ZJ (by conv => lhs; simp [cv, cf, c1, c2, ce, c3, c4, t1, m1, y1, y2, y3, y4, fq, t3, hQm]) ?_ | refine ZA (fun hb => ?_) (fun hb => ?_))
    all_goals try (refine RetNf.dataE rfl (by conv => lhs; simp) (by conv => lhs; simp) (by first | rfl | simp [inlT, inlV]) ?_)
    all_goals try (rw [if_pos (by simp [*])] at hR; subst hR; exact rD_nrm 0 [] [] 2)
    all_goals rw [if_neg (by simp_all)] at hR
    all_goals try (rw [if_pos (by simp [*])] at hR; subst hR; exact rD_nrm 0 [] [] 8)
    all_goals rw [if_neg (by simp_all)] at hR
    all_goals subst hR
    all_goals (
      refine W.frzC 736 0 2 rfl rfl rfl rfl (by simp; rfl) (by conv => lhs; simp [frqT, frqV, frq1, frz1, AP.run, t1]) (by rfl) ?_
      simp [st]
      refine W.frzC 736 0 39 rfl rfl rfl rfl (by simp; rfl) (by conv => lhs; simp [frqT, frqV, frq1, frz1, AP.run, t2]) (by rfl) ?_
      simp [st]
      refine W.frzC 736 0 40 rfl rfl rfl rfl (by simp; rfl) (by conv => lhs; simp [frqT, frqV, frq1, frz1, AP.run, t4, hQl]) (by rfl) ?_
      simp [st])
    all_goals (
      repeat' (first | refine ZV ?_ | refine ZB tm sp ?_ | refine ZH (fun hb => ?_) (fun hb => ?_) | refine ZJ (by conv => lhs; simp [cF]) ?_ | refine ZA (fun hb => ?_) (fun hb => ?_))
      refine RetNf.dataE rfl (by conv => lhs; simp) (by conv => lhs; simp) (by first | rfl | simp [inlT, inlV]) ?_
      exact rD_nrm nd L ms 0)
end Go.Abs.Na
namespace Go.Abs.Na
open Go Go.Proofs Go.Abs
set_option maxRecDepth 100000
set_option maxHeartbeats 4000000
set_option linter.unusedSimpArgs false
set_option linter.unusedVariables false
attribute [local simp] instA
attribute [-simp] mkv
attribute [local simp] mkv_hd hdA_cons hdA_ob hdA_ob'
theorem rf_ok : FnC Try.prog 109 flS := by
  refine FnC.walkN 109 (fn := Try.f109) [95, 87, 51] Try.func109 rfl (by kernel_rfl) (fun e => ?_) (fun e => ⟨_, rD_nrm _ _ _ _⟩)
  change W _ (RetNf _ _ _ (rD 0 [] [] e) []) _ _ ⟨7, [(0, .int .i64 e)], []⟩
  repeat' (first | refine ZV ?_ | refine ZB tm no_specs ?_ | refine ZH (fun hb => ?_) (fun hb => ?_) | refine ZJ (by conv => lhs; simp) ?_ | refine ZA (fun hb => ?_) (fun hb => ?_))
  exact RetNf.dataE rfl (by conv => lhs; simp) (by conv => lhs; simp) (by first | rfl | simp [inlT, inlV]) (rD_nrm0 e)
noncomputable def r2S (a : Int) : SpecFn := mkS2 (fun n : Int => ([.int .i64 n, .ptr 0 0 0 0], [{ gen := 0, kind := 2, elem := 3, size := 1, inl := false, rows := [iC a] }])) fun n => (.bool (n == a), [{ gen := 0, kind := 2, elem := 3, size := 1, inl := false, rows := [iC a] }])
theorem r2S_eq (a n : Int) : r2S a [.int .i64 n, .ptr 0 0 0 0] [{ gen := 0, kind := 2, elem := 3, size := 1, inl := false, rows := [iC a] }] = some (.bool (n == a), [{ gen := 0, kind := 2, elem := 3, size := 1, inl := false, rows := [iC a] }]) :=
  mkS2_eq (enc := fun n : Int => ([AV.int .i64 n, .ptr 0 0 0 0], [{ gen := 0, kind := 2, elem := 3, size := 1, inl := false, rows := [iC a] }])) (res := fun n => (.bool (n == a), [{ gen := 0, kind := 2, elem := 3, size := 1, inl := false, rows := [iC a] }])) (fun x y h => by
    simp only [Prod.mk.injEq, List.cons.injEq, AV.int.injEq, true_and, and_true] at h
    rw [h]) n
theorem r2_ok (a : Int) : FnC Try.prog 110 (r2S a) := by
  refine FnC.walkB 110 (fn := Try.f110) Try.func110 rfl (by kernel_rfl) (fun x b hb => by simp at hb; rw [hb]) fun n => ?_
  change W _ (RetB _ _ 1 (.bool (n == a)) [{ gen := 0, kind := 2, elem := 3, size := 1, inl := false, rows := [[.int .i64 a]] }]) _ _ ⟨7, [(0, .int .i64 n), (1, .ptr 0 0 0 0)], [(0, { gen := 0, kind := 2, elem := 3, size := 1, inl := false, rows := [[.int .i64 a]] })]⟩
  repeat' (first | refine ZV ?_ | refine ZB tm no_specs ?_ | refine ZH (fun hb => ?_) (fun hb => ?_) | refine ZJ (by conv => lhs; simp) ?_ | refine ZA (fun hb => ?_) (fun hb => ?_))
  exact RetB.raw [0] rfl (by conv => lhs; simp) (by decide) (by simp) (by simp [renL]) (by simp)
noncomputable def r2V (a : Int) : ixiW := ⟨110, by simp, by simp, fun n => n == a, 3, 1, iC a, by simp [iC, refsL, AV.refs], by simp [iC, renL, AV.ren], r2S a, r2_ok a, r2S_eq a⟩
noncomputable def retD (e : En) (n : Int) (o : Ob) : En := if e.owner = n then ⟨e.id, -1, e.readers, o, Dir.oth e.waiting n, e.queue⟩ else ⟨e.id, e.owner, Dir.oth e.readers n, e.obj, Dir.oth e.waiting n, e.queue⟩
noncomputable def retL (d : Drs) (id n : Int) (o : Ob) : Int × List En × List Msg × Int :=
  if validD d.node d.ents = false then (0, [], [], 1) else
    let e := fndD id d.ents
    if (id == 0 || (!okN n || (e.owner != n && !decide (n ∈ e.readers)))) = true then (0, [], [], 8) else
      if (e.owner == n && !(oid o == id || zO? o)) = true then (0, [], [], 10) else
        (d.node, putD (Dir.goOn zOb (retD e n o)).2 d.ents, goM (retD e n o) d.node, 0)
noncomputable def retS : SpecFn := mkS (fun d : Drs × Int × Int × Ob => [d.1.v, .int .u64 d.2.1, .int .i64 d.2.2.1, .agg d.2.2.2.cells]) fun d => (rD (retL d.1 d.2.1 d.2.2.1 d.2.2.2).1 (retL d.1 d.2.1 d.2.2.1 d.2.2.2).2.1 (retL d.1 d.2.1 d.2.2.1 d.2.2.2).2.2.1 (retL d.1 d.2.1 d.2.2.1 d.2.2.2).2.2.2, [])
theorem retS_eq (d : Drs) (id n : Int) (o : Ob) : retS [d.v, .int .u64 id, .int .i64 n, .agg o.cells] [] = some (rD (retL d id n o).1 (retL d id n o).2.1 (retL d id n o).2.2.1 (retL d id n o).2.2.2, []) :=
  mkS_eq (enc := fun d : Drs × Int × Int × Ob => [d.1.v, AV.int .u64 d.2.1, .int .i64 d.2.2.1, .agg d.2.2.2.cells]) (res := fun d => (rD (retL d.1 d.2.1 d.2.2.1 d.2.2.2).1 (retL d.1 d.2.1 d.2.2.1 d.2.2.2).2.1 (retL d.1 d.2.1 d.2.2.1 d.2.2.2).2.2.1 (retL d.1 d.2.1 d.2.2.1 d.2.2.2).2.2.2, [])) (fun x y h => by
    obtain ⟨a, b, c, e⟩ := x
    obtain ⟨a', b', c', e'⟩ := y
    simp only [List.cons.injEq, AV.int.injEq, AV.agg.injEq, true_and, and_true] at h
    obtain ⟨h, rfl, rfl, h2⟩ := h
    cases Drs.v_inj h
    cases Td.ext h2
    rfl) (d, id, n, o)
theorem ret_ok : FnC Try.prog 47 retS := by
  refine FnC.walkN 47 (fn := Try.f47) [95, 87, 51] Try.func47 rfl (by kernel_rfl) (fun x => ?_) (fun x => ⟨_, rD_nrm _ _ _ _⟩)
  obtain ⟨⟨nd, l, hl, he⟩, id, n, ob⟩ := x
  obtain ⟨SD, hSD⟩ : ∃ S, S = dli (r2V n) := ⟨_, rfl⟩
  have sp : ∀ x ∈ ([(48, ⟨1, vdS⟩), (109, ⟨1, flS⟩), (103, ⟨1, boS okN⟩), (49, ⟨1, entS⟩), (106, ⟨0, conS⟩), (111, ⟨1, fitS⟩), (56, ⟨1, cobS⟩), (112, ⟨3, SD⟩), (108, ⟨3, finS⟩)] : NL Spec), FnC Try.prog x.1 x.2.fn := by
    simp only [List.mem_cons, List.not_mem_nil, or_false]
    rintro x (rfl | rfl | rfl | rfl | rfl | rfl | rfl | rfl | rfl)
    · exact vdp_ok
    · exact rf_ok
    · exact nod_ok
    · exact ent_ok
    · exact con_ok
    · exact fit2_ok
    · exact cob_ok
    · rw [hSD]; exact dli_ok _
    · exact fin_ok
  have cv := vdS_eq ⟨nd, l, hl, he⟩
  have cf := flS_eq
  have c1 := boS_eq okN n
  have c2 := fitS_eq ob id
  have co := cobS_eq ob
  have ce := entS_eq ⟨nd, l, hl, he⟩ id
  simp only [Drs.v, rD, List.map_nil] at cv cf ce
  change W _ (RetNf _ _ _ (rD (retL ⟨nd, l, hl, he⟩ id n ob).1 (retL ⟨nd, l, hl, he⟩ id n ob).2.1 (retL ⟨nd, l, hl, he⟩ id n ob).2.2.1 (retL ⟨nd, l, hl, he⟩ id n ob).2.2.2) []) _ _ ⟨127, [(0, .agg [.int .i64 nd, .list 41 (l.map enC)]), (1, .int .u64 id), (2, .int .i64 n), (3, .agg ob.cells)], []⟩
  generalize hR : retL ⟨nd, l, hl, he⟩ id n ob = R
  unfold retL at hR
  dsimp only at hR
  cases hv : validD nd l with
  | false =>
    rw [if_pos hv] at hR
    subst hR
    rw [hv] at cv
    repeat' (first | refine ZV ?_ | refine ZB tm sp ?_ | refine ZH (fun hb => ?_) (fun hb => ?_) | refine ZJ (by conv => lhs; simp [cv, cf]) ?_ | refine ZA (fun hb => ?_) (fun hb => ?_))
    refine RetNf.dataE rfl (by conv => lhs; simp) (by conv => lhs; simp) (by first | rfl | simp [inlT, inlV]) ?_
    exact rD_nrm 0 [] [] 1
  | true =>
    rw [if_neg (by simp [hv])] at hR
    rw [hv] at cv
    obtain ⟨oe, oa, o1, o2⟩ := fndD_ok he hv id
    generalize okN n = b1 at *
    generalize (oid ob == id || zO? ob) = b2 at *
    generalize fndD id l = e at *
    obtain ⟨id', ow, rd, o, wt, q⟩ := e
    obtain ⟨-, -, o3⟩ := oe
    dsimp only at oa o1 o2 o3 ce hR
    simp only [enX, ixiB, ixaB] at ce
    have c3 := conS_eq rd n (by omega)
    have cd : ∀ (l : List Int), l.length ≤ 9100 → SD [.sl 0 0 0 l.length, .fn (.func 110) [] [.ptr 1 0 0 0]] [{ gen := 0, kind := 2, elem := 3, size := 1, inl := true, rows := l.map iC }, { gen := 0, kind := 2, elem := 3, size := 1, inl := false, rows := [[.int .i64 n]] }] = some (.sl 0 1 0 (Dir.oth l n).length, [{ gen := 1, kind := 2, elem := 3, size := 1, inl := true, rows := (Dir.oth l n).map iC }, { gen := 0, kind := 2, elem := 3, size := 1, inl := false, rows := [[.int .i64 n]] }]) := fun l h => by rw [hSD]; exact dli_eq (r2V n) l h
    clear hSD
    have d1 := cd rd (by omega)
    have d2 := cd wt (by omega)
    have l1 : (Dir.oth rd n).length ≤ rd.length := List.length_filter_le _ _
    have l2 : (Dir.oth wt n).length ≤ wt.length := List.length_filter_le _ _
    have oa2 := Dir.asc_oth oa n
    generalize hb3 : decide (n ∈ rd) = b3 at *
    unfold retD at hR
    dsimp only at hR
    generalize Dir.oth wt n = wt' at *
    have t1 : List.take rd.length (rd.map iC) = rd.map iC := List.take_of_length_le (by simp)
    have t2 : List.take wt'.length (wt'.map iC) = wt'.map iC := List.take_of_length_le (by simp)
    have t3 : List.take q.length (q.map askC) = q.map askC := List.take_of_length_le (by simp)
    by_cases ho : ow = n
    · subst ho
      have eo : (ow != ow) = false := by simp
      have eo2 : (ow == ow) = true := by simp
      rw [eo, eo2] at hR
      rw [if_pos rfl] at hR
      have cF := finS_eq ⟨⟨nd, l, hl, he⟩, ⟨id', -1, rd, ob, wt', q⟩, by dsimp only; omega, by dsimp only; omega, oa⟩
      unfold finR at cF
      simp only [Drs.v, sesB, sesC] at cF
      generalize goM ⟨id', -1, rd, ob, wt', q⟩ nd = ms at *
      generalize Dir.goOn zOb ⟨id', -1, rd, ob, wt', q⟩ = G at *
      obtain ⟨m0, e'⟩ := G
      dsimp only at cF hR
      generalize putD e' l = L at *
      simp only [rD] at cF
      repeat' (first | refine ZV ?_ | refine ZB (id := 0) tm sp ?_ | refine ZB (id := 1) tm sp ?_ | refine ZB (id := 2) tm sp ?_ | refine ZB (id := 3) tm sp ?_ | refine ZB (id := 4) tm sp ?_ | refine ZB (id := 5) tm sp ?_ | refine ZB (id := 6) tm sp ?_ | refine ZB (id := 7) tm sp ?_ | refine ZB (id := 8) tm sp ?_ | refine ZB (id := 9) tm sp ?_ | refine ZB (id := 10) tm sp ?_ | refine ZB (id := 11) tm sp ?_ | refine ZB (id := 12) tm sp ?_ | refine ZB (id := 13) tm sp ?_ | refine ZH (fun hb => ?_) (fun hb => ?_) | refine ZJ (by conv => lhs; simp [cv, cf, c1, c2, ce, c3, co, d1, d2, eo, eo2, t1]) ?_ | refine ZA (fun hb => ?_) (fun hb => ?_))
      all_goals try (refine RetNf.dataE rfl (by conv => lhs; simp) (by conv => lhs; simp) (by first | rfl | simp [inlT, inlV]) ?_)
      all_goals try (rw [if_pos (by simp [*])] at hR; subst hR; exact rD_nrm 0 [] [] 8)
      all_goals rw [if_neg (by simp_all)] at hR
      all_goals try (rw [if_pos (by simp [*])] at hR; subst hR; exact rD_nrm 0 [] [] 10)
      all_goals rw [if_neg (by simp_all)] at hR
      all_goals subst hR
      all_goals (
        refine W.frzC 464 0 2 rfl rfl rfl rfl (by simp; rfl) (by conv => lhs; simp [frqT, frqV, frq1, frz1, AP.run, t1]) (by rfl) ?_
        simp [st]
        refine W.frzC 464 0 39 rfl rfl rfl rfl (by simp; rfl) (by conv => lhs; simp [frqT, frqV, frq1, frz1, AP.run, t2]) (by rfl) ?_
        simp [st]
        refine W.frzC 464 0 40 rfl rfl rfl rfl (by simp; rfl) (by conv => lhs; simp [frqT, frqV, frq1, frz1, AP.run, t3]) (by rfl) ?_
        simp [st])
      all_goals (
        repeat' (first | refine ZV ?_ | refine ZB tm sp ?_ | refine ZH (fun hb => ?_) (fun hb => ?_) | refine ZJ (by conv => lhs; simp [cF]) ?_ | refine ZA (fun hb => ?_) (fun hb => ?_))
        refine RetNf.dataE rfl (by conv => lhs; simp) (by conv => lhs; simp) (by first | rfl | simp [inlT, inlV]) ?_
        exact rD_nrm nd L ms 0)
    · have eo : (ow != n) = true := by simp [ho]
      have eo2 : (ow == n) = false := by simp [ho]
      rw [eo, eo2] at hR
      rw [if_neg ho] at hR
      generalize Dir.oth rd n = rd' at *
      have t4 : List.take rd'.length (rd'.map iC) = rd'.map iC := List.take_of_length_le (by simp)
      have cF := finS_eq ⟨⟨nd, l, hl, he⟩, ⟨id', ow, rd', o, wt', q⟩, by dsimp only; omega, by dsimp only; omega, oa2⟩
      unfold finR at cF
      simp only [Drs.v, sesB, sesC] at cF
      generalize goM ⟨id', ow, rd', o, wt', q⟩ nd = ms at *
      generalize Dir.goOn zOb ⟨id', ow, rd', o, wt', q⟩ = G at *
      obtain ⟨m0, e'⟩ := G
      dsimp only at cF hR
      generalize putD e' l = L at *
      simp only [rD] at cF
      repeat' (first | refine ZV ?_ | refine ZB (id := 0) tm sp ?_ | refine ZB (id := 1) tm sp ?_ | refine ZB (id := 2) tm sp ?_ | refine ZB (id := 3) tm sp ?_ | refine ZB (id := 4) tm sp ?_ | refine ZB (id := 5) tm sp ?_ | refine ZB (id := 6) tm sp ?_ | refine ZB (id := 7) tm sp ?_ | refine ZB (id := 8) tm sp ?_ | refine ZB (id := 9) tm sp ?_ | refine ZB (id := 10) tm sp ?_ | refine ZB (id := 11) tm sp ?_ | refine ZB (id := 12) tm sp ?_ | refine ZB (id := 13) tm sp ?_ | refine ZH (fun hb => ?_) (fun hb => ?_) | refine ZJ (by conv => lhs; simp [cv, cf, c1, c2, ce, c3, co, d1, d2, eo, eo2, t1]) ?_ | refine ZA (fun hb => ?_) (fun hb => ?_))
      all_goals try (refine RetNf.dataE rfl (by conv => lhs; simp) (by conv => lhs; simp) (by first | rfl | simp [inlT, inlV]) ?_)
      all_goals try (rw [if_pos (by simp [*])] at hR; subst hR; exact rD_nrm 0 [] [] 8)
      all_goals rw [if_neg (by simp_all)] at hR
      all_goals try (rw [if_pos (by simp [*])] at hR; subst hR; exact rD_nrm 0 [] [] 10)
      all_goals rw [if_neg (by simp_all)] at hR
      all_goals subst hR
      all_goals (
        refine W.frzC 464 0 2 rfl rfl rfl rfl (by simp; rfl) (by conv => lhs; simp [frqT, frqV, frq1, frz1, AP.run, t4]) (by rfl) ?_
        simp [st]
        refine W.frzC 464 0 39 rfl rfl rfl rfl (by simp; rfl) (by conv => lhs; simp [frqT, frqV, frq1, frz1, AP.run, t2]) (by rfl) ?_
        simp [st]
        refine W.frzC 464 0 40 rfl rfl rfl rfl (by simp; rfl) (by conv => lhs; simp [frqT, frqV, frq1, frz1, AP.run, t3]) (by rfl) ?_
        simp [st])
      all_goals (
        repeat' (first | refine ZV ?_ | refine ZB tm sp ?_ | refine ZH (fun hb => ?_) (fun hb => ?_) | refine ZJ (by conv => lhs; simp [cF]) ?_ | refine ZA (fun hb => ?_) (fun hb => ?_))
        refine RetNf.dataE rfl (by conv => lhs; simp) (by conv => lhs; simp) (by first | rfl | simp [inlT, inlV]) ?_
        exact rD_nrm nd L ms 0)
end Go.Abs.Na
namespace Go.Abs.Na
open Go Go.Proofs Go.Abs
set_option maxRecDepth 100000
set_option maxHeartbeats 4000000
set_option linter.unusedSimpArgs false
set_option linter.unusedVariables false
theorem tNV : Try.prog.funcs.all (fun fn => !(fn.name == "runtime.NumGoroutine")) = true := by kernel_rfl
/-- Sorting one number. -/
def sort1 : SpecFn := fun args B => match args, B with
  | [.sl 0 0 0 1], [⟨0, 2, 3, 1, true, [[.int .i64 m]]⟩] => some (.tup [], [⟨0, 2, 3, 1, true, [[.int .i64 m]]⟩])
  | _, _ => none
theorem sort1_ok : FnC Try.prog 215 sort1 := by
  refine ⟨sort_ok.fn, fun args B r B' h => sort_ok.calls args B r B' ?_⟩
  unfold sort1 at h
  split at h
  · rename_i m
    cases h
    have hs : srt [m] = [m] := List.perm_singleton.1 (srt_perm [m])
    have := sortS_eq [m] (by simp) (by simp)
    rw [hs] at this
    exact this
  · cases h
def base : NL SpecFn := [(181, cloneC 3 1 8), (182, cloneC 120 2 16), (176, insertC 117 41 552), (215, sort1)]
theorem base_ok : ∀ f S, lk base f = some S → FnC Try.prog f S := by
  intro f S h
  simp only [base, lk] at h
  split at h
  · rename_i e; subst e; cases h; exact clone181_ok
  split at h
  · rename_i e; subst e; cases h; exact clone182_ok
  split at h
  · rename_i e; subst e; cases h; exact insert176_ok
  split at h
  · rename_i e; subst e; cases h; exact sort1_ok
  · cases h
noncomputable def run (f : FuncId) : SpecFn := runB Try.prog base 1000 40 f
theorem run_ok (f : FuncId) {fn : Func} {body : Code} (hf : Try.prog.funcs[f]? = some fn) (hb : fn.body = some body) : FnC Try.prog f (run f) := runB_ok base_ok tm tNV 40 f hf hb
noncomputable def pf (f : FuncId) : SpecFn := pureS (run f)
theorem pf_ok (f : FuncId) {fn : Func} {body : Code} (hf : Try.prog.funcs[f]? = some fn) (hb : fn.body = some body) : FnC Try.prog f (pf f) := FnC.pure (run_ok f hf hb)
theorem sane_eq : pf 44 [] [] = some (.bool true, []) := by kernel_rfl
theorem saneD_ex : ∃ S, FnC Try.prog 44 S ∧ S [] [] = some (.bool true, []) := ⟨_, pf_ok 44 Try.func44 rfl, sane_eq⟩
end Go.Abs.Na
namespace Go.Abs.Na
open Go Go.Proofs Go.Abs
set_option maxRecDepth 100000
set_option maxHeartbeats 4000000
set_option linter.unusedSimpArgs false
set_option linter.unusedVariables false
attribute [local simp] instA
attribute [-simp] mkv
attribute [local simp] mkv_hd hdA_cons hdA_ob hdA_ob'
@[simp] def hdC (h : Dir.Hd) : List AV := [.int .i64 (h.mode 0), .int .i64 (h.mode 1), .int .i64 (h.mode 2), .int .i64 (h.mode 3), .bool (h.demand 0), .bool (h.demand 1), .bool (h.demand 2), .bool (h.demand 3), .int .i64 (h.asked 0), .int .i64 (h.asked 1), .int .i64 (h.asked 2), .int .i64 (h.asked 3)]
def hdB (h : Dir.Hd) : ABlk := { gen := 0, kind := 2, elem := 110, size := 12, inl := false, rows := [hdC h] }
end Go.Abs.Na
namespace Go.Abs.Na
open Go Go.Proofs Go.Abs
set_option maxRecDepth 100000
set_option maxHeartbeats 4000000
set_option linter.unusedSimpArgs false
set_option linter.unusedVariables false
/-! ### A device -/
def deC (id n : Int) : List AV := [.int .u64 id, .int .i64 9, .int .i64 0, .int .i64 0, .int .u64 0, .nils, .nils, .nils, .int .i64 0, .int .i64 0, .int .i64 0, .int .i64 0, .int .i64 0, .int .i64 0, .int .i64 0, .int .i64 0, .int .i64 0, .int .i64 0, .nils, .nils, .int .i64 0, .int .i64 0, .int .i64 0, .nils, .nils, .int .i64 0, .int .u64 0, .int .i64 0, .int .i64 0, .nils, .nils, .nils, .int .i64 0, .int .i64 0, .int .i64 n, .nils]
def deN (id n : Int) : List AV := [.int .u64 id, .int .i64 9, .int .i64 0, .int .i64 0, .int .u64 0, .list 1 [], .list 4 [], .list 1 [], .int .i64 0, .int .i64 0, .int .i64 0, .int .i64 0, .int .i64 0, .int .i64 0, .int .i64 0, .int .i64 0, .int .i64 0, .int .i64 0, .list 2 [], .list 4 [], .int .i64 0, .int .i64 0, .int .i64 0, .list 1 [], .list 1 [], .int .i64 0, .int .u64 0, .int .i64 0, .int .i64 0, .list 1 [], .list 1 [], .list 1 [], .int .i64 0, .int .i64 0, .int .i64 n, .list 3 []]
theorem de_nrm (id n : Int) : nrmL Try.prog (leafs Try.prog 48) (deC id n) = deN id n := by kernel_rfl
theorem wf0iD : (Lit.int .i64 0).wf = true := by decide
theorem wf9iD : (Lit.int .i64 9).wf = true := by decide
theorem wf0uD : (Lit.int .u64 0).wf = true := by decide
theorem de_p {id n : Int} (h1 : (Lit.int .u64 id).wf = true) (h2 : (Lit.int .i64 n).wf = true) : tyP Try.prog 8 48 (deN id n) = some [] := by
  simp [tyP, tyFsP, tyB, tyI, tyS, deN, List.replicate, Try.underlying48, Try.underlying30, Try.underlying3, Try.underlying42, Try.underlying31, Try.underlying35, Try.underlying32, Try.underlying33, Try.underlying38, Try.underlying36, Try.underlying2, Try.underlying39, Try.underlying40, Try.underlying43, Try.underlying22, Try.underlying44, Try.underlying45, Try.underlying46, vc30, vc252, vc9, vc224, vc227, vc2, vc5, vc137, h1, h2, wf0iD, wf9iD, wf0uD]
theorem de_ty {id n : Int} (h1 : (Lit.int .u64 id).wf = true) (h2 : (Lit.int .i64 n).wf = true) : TyR Try.prog 8 48 (deN id n) := by
  obtain ⟨a, e1, e2⟩ := tyP_ok 8 _ _ _ (de_p h1 h2)
  rw [List.append_nil] at e1
  rw [e1]
  exact e2
theorem de_bd (id n : Int) : bdL 10000 (deN id n) = true := by kernel_rfl
def deO (id n : Int) (h1 : (Lit.int .u64 id).wf = true) (h2 : (Lit.int .i64 n).wf = true) : Ob := ⟨deN id n, de_ty h1 h2, de_bd id n⟩
theorem oid_de {id n : Int} {h1 : (Lit.int .u64 id).wf = true} {h2 : (Lit.int .i64 n).wf = true} : oid (deO id n h1 h2) = id := by
  obtain ⟨r, h⟩ := oid_eq (deO id n h1 h2)
  have h : deN id n = .int .u64 (oid (deO id n h1 h2)) :: r := h
  unfold deN at h
  simp only [List.cons.injEq, AV.int.injEq, true_and] at h
  exact h.1.symm
noncomputable def retN : SpecFn := nS Try.prog [95, 30, 3, 48] retS
theorem retN_ok : FnC Try.prog 47 retN := ret_ok.nrm _
theorem drs_nrmV (n : Int) (l : List En) : nrmV Try.prog 95 (.agg [.int .i64 n, .list 41 (l.map enC)]) = .agg [.int .i64 n, .list 41 (l.map enC)] := by
  simp only [nrmV, drLeafs, nrmL, uE, nrmRows_map enC_nrm]
theorem retN_eq (d : Drs) (id n i v : Int) (h1 : (Lit.int .u64 i).wf = true) (h2 : (Lit.int .i64 v).wf = true) : retN [d.v, .int .u64 id, .int .i64 n, .agg (deC i v)] [] = some (rD (retL d id n (deO i v h1 h2)).1 (retL d id n (deO i v h1 h2)).2.1 (retL d id n (deO i v h1 h2)).2.2.1 (retL d id n (deO i v h1 h2)).2.2.2, []) := by
  rw [retN, nS_eq]
  simp only [nrmL]
  rw [show nrmV Try.prog 95 d.v = d.v from drs_nrmV _ _, show nrmV Try.prog 48 (.agg (deC i v)) = .agg (deO i v h1 h2).cells by rw [nrmV, de_nrm]; rfl]
  exact retS_eq d id n _
/-! ### One object -/
theorem zob_z : zO? zOb = true := by kernel_rfl
def idK : Int := 216172782113783813
/-- Objects that fit. -/
def Pz (id : Int) (o : Ob) : Prop := (oid o == id || zO? o) = true
theorem pz_zob (id : Int) : Pz id zOb := by simp [Pz, zob_z]
theorem pz_de {id n : Int} {h1 : (Lit.int .u64 id).wf = true} {h2 : (Lit.int .i64 n).wf = true} : Pz id (deO id n h1 h2) := by simp [Pz, oid_de]
/-- The directory's entries, and the entry of the object. -/
def DS (id : Int) (l : List En) (e : En) : Prop := (l = [] ∧ e = ent0 id) ∨ (l = [e] ∧ e.id = id)
theorem ds_fnd {id : Int} {l : List En} {e : En} (h : DS id l e) : fndD id l = e := by
  rcases h with ⟨rfl, rfl⟩ | ⟨rfl, h⟩
  · rfl
  · simp [fndD, List.find?_cons, h]
theorem ds_put {id : Int} {l : List En} {e e' : En} (h : DS id l e) (he : e'.id = id) : putD e' l = [e'] := by
  rcases h with ⟨rfl, _⟩ | ⟨rfl, h⟩
  · have hb : bsD [] e'.id = 0 := by unfold bsD; rw [bsF_ge (by simp)]
    simp [putD, hb, hasD]
  · have hb : bsD [e] id = 0 := by
      unfold bsD
      rw [bsF_lt (by simp)]
      simp [h, bsF_ge]
    unfold putD
    rw [he, hb]
    simp [hasD, h]
end Go.Abs.Na
namespace Go.Abs.Na
open Go Go.Proofs Go.Abs
set_option maxRecDepth 100000
set_option maxHeartbeats 4000000
set_option linter.unusedSimpArgs false
set_option linter.unusedVariables false
attribute [local simp] instA
attribute [-simp] mkv
attribute [local simp] mkv_hd hdA_cons hdA_ob hdA_ob'
abbrev Ops := {l : List UInt8 // l.length ≤ maxLen}
def dirB (g : Nat) (l : List En) : ABlk := { gen := g, kind := 2, elem := 95, size := 2, inl := false, rows := [[.int .i64 1, .list 41 (l.map enC)]] }
def hdG (h : Dir.Hd) : ABlk := { gen := 1, kind := 2, elem := 110, size := 12, inl := false, rows := [hdC h] }
/-- What holds at each round. -/
structure SafI (n : Nat) where
  i : Nat
  v : Int
  l : List En
  e : En
  h : Dir.Hd
  H : NL ABlk
  hi : i ≤ n + 40
  hv : 0 ≤ v ∧ v ≤ i
  ds : DS idK l e
  inv : Dir.Inv (Pz idK) zOb e h
  live : n ≤ i → Dir.Live n i e
  g1 : lk H 80 = some (dirB 1 l)
  g2 : lk H 384 = some (hdG h)
theorem tmod_nat {x : Int} {m : Nat} (hx : 0 ≤ x) (hm : 0 < m) : ∃ k : Nat, k < m ∧ x.tmod (m : Int) = (k : Int) := by
  obtain ⟨a, rfl⟩ := Int.eq_ofNat_of_zero_le hx
  exact ⟨a % m, Nat.mod_lt _ hm, rfl⟩
end Go.Abs.Na
namespace Go.Abs.Na
open Go Go.Proofs Go.Abs
set_option maxRecDepth 100000
set_option maxHeartbeats 4000000
set_option linter.unusedSimpArgs false
set_option linter.unusedVariables false
theorem shOps {x : AV} (h : TyV Try.prog 9 22 x) : ∃ l : Ops, x = .list 1 (l.1.map byte) := by
  simp only [TyV, TyR, Try.underlying22, Try.underlying5, vc5, List.cons.injEq, and_true] at h
  obtain ⟨rows, rfl, hl, h⟩ := h
  have : ∀ rows : List (List AV), (∀ row ∈ rows, ∃ m, row = [AV.int .u8 m] ∧ (Lit.int .u8 m).wf = true) → ∃ l : List UInt8, rows = l.map byte := by
    intro rows
    induction rows with
    | nil => exact fun _ => ⟨[], rfl⟩
    | cons r rs ih =>
      intro h
      obtain ⟨l, hl⟩ := ih fun row hr => h row (by simp [hr])
      obtain ⟨m, rfl, hm⟩ := h r (by simp)
      simp only [Lit.wf, Bool.and_eq_true, decide_eq_true_eq] at hm
      have h1 : (0 : Int) ≤ m := hm.1
      have h2 : m ≤ 255 := hm.2
      refine ⟨UInt8.ofNat m.toNat :: l, ?_⟩
      rw [List.map_cons, hl]
      congr 1
      simp only [byte, UInt8.toNat_ofNat', List.cons.injEq, AV.int.injEq, true_and, and_true]
      omega
  obtain ⟨l, rfl⟩ := this rows h
  exact ⟨⟨l, by simpa using hl⟩, rfl⟩
end Go.Abs.Na
namespace Go.Abs.Dir
set_option linter.unusedSimpArgs false
set_option linter.unusedVariables false
variable {O : Type}
/-- Requests of different nodes. -/
def Fresh (q : List (Int × Int)) (rd : List Int) : Prop := q.Pairwise (fun a b => a.1 ≠ b.1) ∧ (∀ p ∈ q, p.1 ∉ rd ∧ (p.2 = 1 ∨ p.2 = 2))
/-- What going on from no owner comes to: requests 'g' are granted, 'r' are left. -/
structure Runs (z : O) (q : List (Int × Int)) (rd : List Int) (ob : O) (g r : List (Int × Int)) (R : List (Mg O) × Int × List Int × O × List Int × List (Int × Int)) : Prop where
  split : q = g ++ r
  msgs : R.1 = g.map (fun p => .grant p.1 p.2 ob) ++ R.2.2.2.2.1.map .rev
  left : R.2.2.2.2.2 = r
  wt : (r = [] ∧ R.2.2.2.2.1 = []) ∨ (r ≠ [] ∧ R.2.2.2.2.1 ≠ [])
  st : (R.2.1 = -1 ∧ R.2.2.2.1 = ob ∧ Asc R.2.2.1 ∧ (∀ n ∈ R.2.2.1, n ∈ rd ∨ ∃ p ∈ g, p.1 = n) ∧ (r ≠ [] → R.2.2.2.2.1 = R.2.2.1)) ∨ ((∃ p ∈ g, p.1 = R.2.1) ∧ R.2.2.1 = [] ∧ R.2.2.2.1 = z ∧ (r ≠ [] → R.2.2.2.2.1 = [R.2.1]))
theorem goQ_runs (z : O) (ob : O) : ∀ {q : List (Int × Int)} {rd : List Int}, Fresh q rd → Asc rd → (∀ p ∈ q, p.1 ≠ -1) → ∃ g r, Runs z q rd ob g r (goQ z q (-1) rd ob) ∧ (rd = [] → q ≠ [] → g ≠ [])
  | [], rd, _, ha, _ => ⟨[], [], ⟨rfl, rfl, rfl, .inl ⟨rfl, rfl⟩, .inl ⟨rfl, rfl, ha, fun n h => .inl h, fun h => absurd rfl h⟩⟩, fun _ h => absurd rfl h⟩
  | (n, m) :: q, rd, hf, ha, hn => by
    obtain ⟨f1, f2⟩ := hf
    obtain ⟨p1, p2⟩ := List.pairwise_cons.1 f1
    obtain ⟨d1, d2⟩ := f2 (n, m) (by simp)
    dsimp only at p1 d1 d2
    have hn0 := hn (n, m) (by simp)
    dsimp only at hn0
    have ho := oth_none d1
    by_cases hm : m = 1
    · subst hm
      have e : goQ z ((n, 1) :: q) (-1) rd ob = (.grant n 1 ob :: (goQ z q (-1) (ins n rd) ob).1, (goQ z q (-1) (ins n rd) ob).2) := by
        rw [goQ, if_neg (by simp), if_pos rfl, ho]
      obtain ⟨g, r, ⟨k1, k2, k3, k4, k5⟩, _⟩ := goQ_runs z ob (q := q) (rd := ins n rd) ⟨p2, fun p hp => ⟨fun h => by
        rcases mem_ins.1 h with h | h
        · exact p1 p hp h.symm
        · exact (f2 p (by simp [hp])).1 h, (f2 p (by simp [hp])).2⟩⟩ (asc_ins ha d1) (fun p hp => hn p (by simp [hp]))
      refine ⟨(n, 1) :: g, r, ⟨by rw [k1]; rfl, by rw [e, k2]; rfl, by rw [e]; exact k3, by rw [e]; exact k4, ?_⟩, fun _ _ => by simp⟩
      rw [e]
      rcases k5 with ⟨a1, a2, a3, a4, a5⟩ | ⟨⟨p, b0, b1⟩, b2, b3, b4⟩
      · refine .inl ⟨a1, a2, a3, fun x hx => ?_, a5⟩
        rcases a4 x hx with h | ⟨p, h1, h2⟩
        · rcases mem_ins.1 h with rfl | h
          · exact .inr ⟨(x, 1), by simp, rfl⟩
          · exact .inl h
        · exact .inr ⟨p, by simp [h1], h2⟩
      · exact .inr ⟨⟨p, by simp [b0], b1⟩, b2, b3, b4⟩
    · have hm2 : m = 2 := by omega
      subst hm2
      by_cases hr : rd = []
      · subst hr
        cases q with
        | nil =>
          have e : goQ z [(n, 2)] (-1) [] ob = ([.grant n 2 ob], n, [], z, [], []) := by
            rw [goQ, if_neg (by simp), if_neg (by decide), if_neg (by simp [oth])]
            rfl
          rw [e]
          exact ⟨[(n, 2)], [], ⟨rfl, rfl, rfl, .inl ⟨rfl, rfl⟩, .inr ⟨⟨(n, 2), by simp, rfl⟩, rfl, rfl, fun h => absurd rfl h⟩⟩, fun _ _ => by simp⟩
        | cons p q =>
          have e : goQ z ((n, 2) :: p :: q) (-1) [] ob = ([.grant n 2 ob, .rev n], n, [], z, [n], p :: q) := by
            rw [goQ, if_neg (by simp), if_neg (by decide), if_neg (by simp [oth])]
            obtain ⟨a, b⟩ := p
            rw [goQ, if_pos hn0]
          rw [e]
          exact ⟨[(n, 2)], p :: q, ⟨rfl, rfl, rfl, .inr ⟨by simp, by simp⟩, .inr ⟨⟨(n, 2), by simp, rfl⟩, rfl, rfl, fun _ => rfl⟩⟩, fun _ _ => by simp⟩
      · have e : goQ z ((n, 2) :: q) (-1) rd ob = (rd.map .rev, -1, rd, ob, rd, (n, 2) :: q) := by
          rw [goQ, if_neg (by simp), if_neg (by decide), ho, if_pos hr]
        rw [e]
        exact ⟨[], (n, 2) :: q, ⟨rfl, rfl, rfl, .inr ⟨by simp, hr⟩, .inl ⟨rfl, rfl, ha, fun x h => .inl h, fun _ => rfl⟩⟩, fun h _ => absurd h hr⟩
end Go.Abs.Dir
namespace Go.Abs.Na
open Go Go.Proofs Go.Abs
set_option maxRecDepth 100000
set_option maxHeartbeats 4000000
set_option linter.unusedSimpArgs false
set_option linter.unusedVariables false
/-- A sound entry of one object. -/
structure Sd (id : Int) (e : En) : Prop where
  hid : e.id = id
  ow : e.owner = -1 ∨ okN e.owner = true
  one : e.owner ≠ -1 → e.readers = [] ∧ e.obj = zOb
  ob : Pz id e.obj
  rd : (∀ n ∈ e.readers, okN n = true) ∧ Dir.Asc e.readers
  wt : Dir.Asc e.waiting ∧ ∀ n ∈ e.waiting, okN n = true ∧ (n = e.owner ∨ n ∈ e.readers)
  q : ∀ p ∈ e.queue, okN p.1 = true ∧ okM p.2 = true
  wq : e.waiting ≠ [] ∨ e.queue = []
  q6 : e.queue.length ≤ 6
theorem okN_iff {n : Int} : okN n = true ↔ 0 ≤ n ∧ n ≤ 127 := by
  simp only [okN, Bool.and_eq_true, decide_eq_true_eq]
theorem Sd.fine {id : Int} (h0 : id ≠ 0) {e : En} (h : Sd id e) : fineB e = true := by
  have a1 := ascN_iff.2 h.rd
  have a2 := ascN_iff.2 ⟨fun n hn => (h.wt.2 n hn).1, h.wt.1⟩
  have b0 : -1 ≤ e.owner ∧ e.owner ≤ 127 := by
    rcases h.ow with h | h
    · omega
    · have := okN_iff.1 h; omega
  have b1 : decide (-1 ≤ e.owner) = true := by simp [b0.1]
  have b2 : decide (e.owner ≤ 127) = true := by simp [b0.2]
  have b3 : (e.owner == -1 || ((e.readers.length : Int) == 0 && zO? e.obj)) = true := by
    by_cases ho : e.owner = -1
    · simp [ho]
    · rw [(h.one ho).1, (h.one ho).2, zob_z]
      simp
  have b4 : (oid e.obj == e.id || zO? e.obj) = true := by rw [h.hid]; exact h.ob
  have b5 : e.waiting.any (strg e) = false := by
    rw [List.any_eq_false]
    intro n hn
    rcases (h.wt.2 n hn).2 with h | h
    · simp [strg, h]
    · simp [strg, h]
  have b6 : e.queue.any oddA = false := by
    rw [List.any_eq_false]
    intro p hp
    obtain ⟨e1, e2⟩ := h.q p hp
    simp [oddA, e1, e2]
  have b7 : (decide ((0 : Int) < e.waiting.length) || (e.queue.length : Int) == 0) = true := by
    rcases h.wq with w | w
    · have := List.length_pos_iff.2 w
      simp; left; omega
    · simp [w]
  have b8 : (e.id != 0) = true := by simpa [h.hid] using h0
  unfold fineB
  rw [a1, a2, b1, b2, b3, b4, b5, b6, b7, b8]
  rfl
theorem Sd.valid {id nd : Int} (h0 : id ≠ 0) (hn : okN nd = true) {l : List En} {e : En} (hd : DS id l e) (h : Sd id e) : validD nd l = true := by
  rcases hd with ⟨rfl, _⟩ | ⟨rfl, hid⟩
  · simp [validD, hn]
  · have := h.fine h0
    simp [validD, hn, goodD, this]
theorem Sd.okL {id : Int} {l : List En} {e : En} (hd : DS id l e) (h : Sd id e) : l.length ≤ 9000 ∧ ∀ x ∈ l, okE x := by
  rcases hd with ⟨rfl, _⟩ | ⟨rfl, hid⟩
  · simp
  · refine ⟨by simp, fun x hx => ?_⟩
    simp only [List.mem_singleton] at hx
    subst hx
    have a1 := asc_len (ascN_iff.2 h.rd)
    have a2 := asc_len (ascN_iff.2 ⟨fun n hn => (h.wt.2 n hn).1, h.wt.1⟩)
    have a3 := h.q6
    exact ⟨by omega, by omega, by omega⟩
/-- Wants of the first nodes. -/
structure Wt (W : List (Int × Int)) : Prop where
  len : W.length ≤ 6
  node : ∀ (i : Nat) (p : Int × Int), W[i]? = some p → p.1 = (i : Int)
  mode : ∀ p ∈ W, p.2 = 1 ∨ p.2 = 2
theorem Wt.ok {W : List (Int × Int)} (h : Wt W) : ∀ p ∈ W, (0 ≤ p.1 ∧ p.1 < 6) ∧ okN p.1 = true ∧ okM p.2 = true := fun p hp => by
  obtain ⟨i, hi, rfl⟩ := List.mem_iff_getElem.1 hp
  have h1 := h.node i _ (List.getElem?_eq_getElem hi)
  have h2 := h.len
  refine ⟨by omega, okN_iff.2 (by omega), by simpa [okM] using h.mode _ hp⟩
theorem Wt.pw {W : List (Int × Int)} (h : Wt W) : W.Pairwise (fun a b => a.1 ≠ b.1) := by
  rw [List.pairwise_iff_getElem]
  intro i j hi hj hij
  have h1 := h.node i _ (List.getElem?_eq_getElem hi)
  have h2 := h.node j _ (List.getElem?_eq_getElem hj)
  omega
/-- Some are still to give back. -/
structure Pd (id v : Int) (W : List (Int × Int)) (k : Nat) (B : List Int) (e : En) : Prop where
  sd : Sd id e
  q : e.queue = W.drop k
  kl : k < W.length
  w : e.waiting = B
  b0 : B ≠ []
  fr : ∀ n ∈ B, ∀ p ∈ W.drop k, p.1 ≠ n
  st : (e.owner = -1 ∧ e.readers = B ∧ ∃ h1 h2, e.obj = deO id v h1 h2) ∨ (e.owner ≠ -1 ∧ B = [e.owner] ∧ e.readers = [])
/-- A round is granted. -/
structure Dn (id v : Int) (W : List (Int × Int)) (k : Nat) (e : En) (M : List (Dir.Mg Ob)) (g : List (Int × Int)) : Prop where
  sd : Sd id e
  gl : k + g.length ≤ W.length
  g0 : g ≠ []
  sp : W.drop k = g ++ W.drop (k + g.length)
  ms : ∃ h1 h2, M = g.map (fun p => .grant p.1 p.2 (deO id v h1 h2)) ++ e.waiting.map .rev
  nx : (k + g.length = W.length ∧ e.waiting = []) ∨ Pd id v W (k + g.length) e.waiting e
theorem dn_goOn {id v : Int} {W : List (Int × Int)} (hW : Wt W) {k : Nat} (hk : k < W.length) (h1 : (Lit.int .u64 id).wf = true) (h2 : (Lit.int .i64 v).wf = true) :
    ∃ e' M g, Dir.goOn zOb (⟨id, -1, [], deO id v h1 h2, [], W.drop k⟩ : En) = (M, e') ∧ Dn id v W k e' M g := by
  have hq : ∀ p ∈ W.drop k, p ∈ W := fun p hp => List.mem_of_mem_drop hp
  have hf : Dir.Fresh (W.drop k) [] := ⟨hW.pw.sublist (List.drop_sublist _ _), fun p hp => ⟨by simp, hW.mode p (hq p hp)⟩⟩
  obtain ⟨g, r, ⟨s1, s2, s3, s4, s5⟩, hg⟩ := Dir.goQ_runs zOb (deO id v h1 h2) hf List.Pairwise.nil (fun p hp => by have := (hW.ok p (hq p hp)).1; omega)
  have hg := hg rfl (by intro h; have := congrArg List.length h; simp at this; omega)
  have hlen := congrArg List.length s1
  simp only [List.length_drop, List.length_append] at hlen
  have hr : W.drop (k + g.length) = r := by rw [← List.drop_drop, s1, List.drop_left']; rfl
  have h6 := hW.len
  have hgW : ∀ p ∈ g, p ∈ W := fun p hp => hq p (by rw [s1]; simp [hp])
  have hrW : ∀ p ∈ r, p ∈ W := fun p hp => hq p (by rw [s1]; simp [hp])
  have hgr : ∀ p ∈ g, ∀ p' ∈ r, p'.1 ≠ p.1 := fun p hp p' hp' => by
    have := hf.1
    rw [s1, List.pairwise_append] at this
    exact (this.2.2 p hp p' hp').symm
  refine ⟨⟨id, (Dir.goQ zOb (W.drop k) (-1) [] (deO id v h1 h2)).2.1, (Dir.goQ zOb (W.drop k) (-1) [] (deO id v h1 h2)).2.2.1, (Dir.goQ zOb (W.drop k) (-1) [] (deO id v h1 h2)).2.2.2.1, (Dir.goQ zOb (W.drop k) (-1) [] (deO id v h1 h2)).2.2.2.2.1, (Dir.goQ zOb (W.drop k) (-1) [] (deO id v h1 h2)).2.2.2.2.2⟩, (Dir.goQ zOb (W.drop k) (-1) [] (deO id v h1 h2)).1, g, by unfold Dir.goOn; rw [if_pos rfl], ?_⟩
  generalize Dir.goQ zOb (W.drop k) (-1) [] (deO id v h1 h2) = R at *
  obtain ⟨M, ow, rd, ob, wt, q⟩ := R
  dsimp only at *
  subst s3
  have hwt : q ≠ [] → (ow = -1 ∧ wt = rd) ∨ (ow ≠ -1 ∧ wt = [ow]) := fun hq0 => by
    rcases s5 with ⟨a1, _, _, _, a5⟩ | ⟨⟨p, p1, p2⟩, _, _, a5⟩
    · exact .inl ⟨a1, a5 hq0⟩
    · have := (hW.ok p (hgW p p1)).1
      exact .inr ⟨by omega, a5 hq0⟩
  have how : ow = -1 ∨ okN ow = true ∧ ∃ p ∈ g, p.1 = ow := by
    rcases s5 with ⟨a1, _⟩ | ⟨⟨p, p1, p2⟩, _⟩
    · exact .inl a1
    · exact .inr ⟨by rw [← p2]; exact (hW.ok p (hgW p p1)).2.1, p, p1, p2⟩
  have hrd : (∀ n ∈ rd, okN n = true ∧ ∃ p ∈ g, p.1 = n) ∧ Dir.Asc rd := by
    rcases s5 with ⟨_, _, a3, a4, _⟩ | ⟨_, a2, _⟩
    · refine ⟨fun n hn => ?_, a3⟩
      rcases a4 n hn with h | ⟨p, p1, p2⟩
      · cases h
      · exact ⟨by rw [← p2]; exact (hW.ok p (hgW p p1)).2.1, p, p1, p2⟩
    · rw [a2]; exact ⟨by simp, List.Pairwise.nil⟩
  have hwtm : ∀ n ∈ wt, (okN n = true ∧ ∃ p ∈ g, p.1 = n) ∧ (n = ow ∨ n ∈ rd) := fun n hn => by
    rcases s4 with ⟨_, w⟩ | ⟨w, _⟩
    · rw [w] at hn; cases hn
    · rcases hwt w with ⟨_, h⟩ | ⟨h0, h⟩
      · rw [h] at hn; exact ⟨hrd.1 n hn, .inr hn⟩
      · rw [h] at hn
        simp only [List.mem_singleton] at hn
        subst hn
        rcases how with h | h
        · exact absurd h h0
        · exact ⟨h, .inl rfl⟩
  have hsd : Sd id (⟨id, ow, rd, ob, wt, q⟩ : En) := by
    refine ⟨rfl, ?_, ?_, ?_, ⟨fun n hn => (hrd.1 n hn).1, hrd.2⟩, ⟨?_, fun n hn => ⟨(hwtm n hn).1.1, (hwtm n hn).2⟩⟩, fun p hp => (hW.ok p (hrW p hp)).2, ?_, ?_⟩
    · rcases how with h | h
      · exact .inl h
      · exact .inr h.1
    · intro h0
      rcases s5 with ⟨a1, _⟩ | ⟨_, a2, a3, _⟩
      · exact absurd a1 h0
      · exact ⟨a2, a3⟩
    · rcases s5 with ⟨_, a2, _⟩ | ⟨_, _, a3, _⟩
      · dsimp only; rw [a2]; exact pz_de
      · dsimp only; rw [a3]; exact pz_zob id
    · dsimp only
      rcases s4 with ⟨_, w⟩ | ⟨w, _⟩
      · rw [w]; exact List.Pairwise.nil
      · rcases hwt w with ⟨_, h⟩ | ⟨_, h⟩
        · rw [h]; exact hrd.2
        · rw [h]; exact List.pairwise_singleton _ _
    · rcases s4 with ⟨w, _⟩ | ⟨_, w⟩
      · exact .inr w
      · exact .inl w
    · clear how; dsimp only; omega
  refine ⟨hsd, by clear how; omega, hg, by rw [hr]; exact s1, ⟨h1, h2, s2⟩, ?_⟩
  by_cases hq0 : q = []
  · left
    clear how
    subst hq0
    rcases s4 with ⟨_, w⟩ | ⟨w, _⟩
    · exact ⟨by clear s5; simp only [List.length_nil] at hlen; omega, w⟩
    · exact absurd rfl w
  · right
    have hpos := List.length_pos_iff.2 hq0
    refine ⟨hsd, hr.symm, by clear how hwt; omega, rfl, ?_, fun n hn p hp => ?_, ?_⟩
    · rcases s4 with ⟨w, _⟩ | ⟨_, w⟩
      · exact absurd w hq0
      · exact w
    · obtain ⟨p', p1, p2⟩ := (hwtm n hn).1.2
      rw [hr] at hp
      rw [← p2]
      exact hgr p' p1 p hp
    · dsimp only
      rcases s5 with ⟨a1, a2, _, _, a5⟩ | ⟨_, a2, _, a5⟩
      · exact .inl ⟨a1, (a5 hq0).symm, h1, h2, a2⟩
      · rcases hwt hq0 with ⟨h, _⟩ | ⟨h, h'⟩
        · have := a5 hq0
          rw [h] at this
          rw [h, this] at hwtm
          have := (hwtm (-1) (by simp)).1.1
          exact absurd this (by decide)
        · exact .inr ⟨h, h', a2⟩
theorem oth_head {n : Int} {B : List Int} (h : Dir.Asc (n :: B)) : Dir.oth (n :: B) n = B := by
  obtain ⟨h1, _⟩ := List.pairwise_cons.1 h
  have : Dir.oth B n = B := Dir.oth_none fun hn => by have := h1 n hn; omega
  rw [Dir.oth] at this ⊢
  rw [List.filter_cons, if_neg (by simp), this]
/-- One of those who were to give back does. -/
theorem pd_step {id : Int} (h0 : id ≠ 0) {v : Int} {W : List (Int × Int)} (hW : Wt W) {k : Nat} {n : Int} {B : List Int} {e : En} (h : Pd id v W k (n :: B) e) {d : Drs} (hnd : okN d.node = true) (hd : d.ents = [e])
    {u : Int} (h1 : (Lit.int .u64 id).wf = true) (h2 : (Lit.int .i64 u).wf = true) (hu : e.owner ≠ n → u = v) :
    ∃ e' M, retL d id n (deO id u h1 h2) = (d.node, [e'], M.map (mgM d.node id), 0) ∧ ((B = [] ∧ ∃ g, Dn id u W k e' M g) ∨ (B ≠ [] ∧ M = [] ∧ u = v ∧ Pd id u W k B e')) := by
  obtain ⟨sd, q, kl, w, b0, fr, st⟩ := h
  have hin : n ∈ e.waiting := by rw [w]; simp
  obtain ⟨hok, hor⟩ := sd.wt.2 n hin
  have hds : DS id d.ents e := .inr ⟨hd, sd.hid⟩
  have hwa := sd.wt.1
  rw [w] at hwa
  have key : ∃ e' M, Dir.goOn zOb (retD e n (deO id u h1 h2)) = (M, e') ∧ ((B = [] ∧ ∃ g, Dn id u W k e' M g) ∨ (B ≠ [] ∧ M = [] ∧ u = v ∧ Pd id u W k B e')) := by
    rcases st with ⟨s1, s2, t1, t2, s3⟩ | ⟨s1, s2, s3⟩
    · have hno : e.owner ≠ n := by have := okN_iff.1 hok; omega
      have := hu hno
      subst this
      have er : retD e n (deO id u h1 h2) = ⟨id, -1, B, deO id u h1 h2, B, W.drop k⟩ := by
        unfold retD
        rw [if_neg hno, s1, s2, s3, w, q, sd.hid, oth_head hwa]
      rw [er]
      by_cases hB : B = []
      · subst hB
        obtain ⟨e', M, g, k1, k2⟩ := dn_goOn hW kl h1 h2
        exact ⟨e', M, k1, .inl ⟨rfl, g, k2⟩⟩
      · refine ⟨_, _, by unfold Dir.goOn; rw [if_neg hB], .inr ⟨hB, rfl, rfl, ?_⟩⟩
        have hBs : ∀ x ∈ B, x ∈ e.readers := fun x hx => by rw [s2]; simp [hx]
        have hBa := (List.pairwise_cons.1 hwa).2
        refine ⟨⟨rfl, .inl rfl, fun c => absurd rfl c, pz_de (h1 := h1) (h2 := h2), ⟨fun x hx => sd.rd.1 x (hBs x hx), hBa⟩, ⟨hBa, fun x hx => ⟨sd.rd.1 x (hBs x hx), .inr hx⟩⟩, by dsimp only; rw [← q]; exact sd.q, .inl hB, by dsimp only; rw [← q]; exact sd.q6⟩, rfl, kl, rfl, hB, fun x hx => fr x (by simp [hx]), .inl ⟨rfl, rfl, h1, h2, rfl⟩⟩
    · simp only [List.cons.injEq] at s2
      obtain ⟨rfl, rfl⟩ := s2
      have er : retD e e.owner (deO id u h1 h2) = ⟨id, -1, [], deO id u h1 h2, [], W.drop k⟩ := by
        unfold retD
        rw [if_pos rfl, s3, w, q, sd.hid, oth_head hwa]
      rw [er]
      obtain ⟨e', M, g, k1, k2⟩ := dn_goOn hW kl h1 h2
      exact ⟨e', M, k1, .inl ⟨rfl, g, k2⟩⟩
  obtain ⟨e', M, k1, k2⟩ := key
  refine ⟨e', M, ?_, k2⟩
  have e3 : (id == 0) = false := by simpa using h0
  have e4 : (e.owner != n && !decide (n ∈ e.readers)) = false := by
    rcases hor with h | h
    · simp [h]
    · simp [h]
  have e5 : (oid (deO id u h1 h2) == id || zO? (deO id u h1 h2)) = true := pz_de (h1 := h1) (h2 := h2)
  have hi2 : (retD e n (deO id u h1 h2)).id = id := by
    unfold retD
    split <;> exact sd.hid
  have he' : e'.id = id := by
    rcases k2 with ⟨_, g, k2⟩ | ⟨_, _, _, k2⟩
    · exact k2.sd.hid
    · exact k2.sd.hid
  unfold retL
  rw [if_neg (by simp [sd.valid h0 hnd hds])]
  dsimp only
  rw [ds_fnd hds, if_neg (by simp only [hok, e3, e4]; decide), if_neg (by simp only [e5]; simp)]
  simp only [goM, k1, hi2, ds_put hds he']
/-! ### The requests -/
def idF : Int := 648518346341351429
theorem idF_wf : (Lit.int .u64 idF).wf = true := by decide
theorem ow0_F : ow0 idF = 9 := by
  have h : sp0 idF = 9 := by decide
  rw [ow0, h]
  rfl
noncomputable def eW (W : List (Int × Int)) : En := ⟨idF, 9, [], zOb, if W = [] then [] else [9], W⟩
noncomputable def lW (W : List (Int × Int)) : List En := if W = [] then [] else [eW W]
theorem eW_sd {W : List (Int × Int)} (hW : Wt W) : Sd idF (eW W) := by
  refine ⟨rfl, .inr (show okN 9 = true by decide), fun _ => ⟨rfl, rfl⟩, pz_zob _, ⟨by simp [eW], List.Pairwise.nil⟩, ?_, fun p hp => (hW.ok p hp).2, ?_, hW.len⟩
  · unfold eW
    dsimp only
    split
    · exact ⟨List.Pairwise.nil, by simp⟩
    · refine ⟨List.pairwise_singleton _ _, fun n hn => ?_⟩
      simp only [List.mem_singleton] at hn
      subst hn
      exact ⟨by decide, .inl rfl⟩
  · by_cases h : W = []
    · exact .inr h
    · exact .inl (by simp [eW, h])
theorem eW_ds (W : List (Int × Int)) : DS idF (lW W) (eW W) := by
  unfold lW
  split
  · rename_i h
    subst h
    refine .inl ⟨rfl, ?_⟩
    simp only [eW, ent0, ow0_F]
    rfl
  · exact .inr ⟨rfl, rfl⟩
theorem wt_snoc {W : List (Int × Int)} (hW : Wt W) (h6 : W.length < 6) {m : Int} (hm : m = 1 ∨ m = 2) : Wt (W ++ [((W.length : Int), m)]) := by
  refine ⟨by simp; omega, fun i p hp => ?_, fun p hp => ?_⟩
  · by_cases hi : i < W.length
    · rw [List.getElem?_append_left hi] at hp
      exact hW.node i p hp
    · rw [List.getElem?_append_right (by omega)] at hp
      have hz : i - W.length = 0 := by
        obtain ⟨hlt, _⟩ := List.getElem?_eq_some_iff.1 hp
        simp at hlt
        omega
      rw [hz] at hp
      simp only [List.getElem?_cons_zero, Option.some.injEq] at hp
      rw [← hp]
      dsimp only
      omega
  · simp only [List.mem_append, List.mem_singleton] at hp
    rcases hp with hp | rfl
    · exact hW.mode p hp
    · exact hm
noncomputable def mW (W : List (Int × Int)) : List Msg := if W = [] then [revM 0 idF 9] else []
theorem ask_w {W : List (Int × Int)} (hW : Wt W) (h6 : W.length < 6) {m : Int} (hm : m = 1 ∨ m = 2) {d : Drs} (hn : d.node = 0) (hd : d.ents = lW W) : askL d idF (W.length : Int) m = (0, [eW (W ++ [((W.length : Int), m)])], mW W, 0) := by
  have hds := eW_ds W
  rw [← hd] at hds
  have e1 : okN (W.length : Int) = true := okN_iff.2 (by omega)
  have e2 : okM m = true := by simpa [okM] using hm
  have e4 : ((eW W).owner == (W.length : Int)) = false := by simp [eW]; omega
  have e5 : (m == 1 && decide ((W.length : Int) ∈ (eW W).readers)) = false := by simp [eW]
  have e6 : ((eW W).queue.any fun p => p.1 == (W.length : Int)) = false := by
    rw [List.any_eq_false]
    intro p hp h1
    have hp : p ∈ W := hp
    obtain ⟨i, hi, rfl⟩ := List.mem_iff_getElem.1 hp
    have h2 := hW.node i _ (List.getElem?_eq_getElem hi)
    simp only [beq_iff_eq] at h1
    omega
  unfold askL
  rw [if_neg (by simp [(eW_sd hW).valid (by decide) (show okN d.node = true by rw [hn]; rfl) hds]), if_neg (by simp only [e1, e2]; decide)]
  dsimp only
  rw [ds_fnd hds, if_neg (by simp only [e4, e5, e6]; decide)]
  have hgo : Dir.goOn zOb { eW W with queue := (eW W).queue ++ [((W.length : Int), m)] } = (if W = [] then [.rev 9] else [], eW (W ++ [((W.length : Int), m)])) := by
    unfold Dir.goOn eW
    dsimp only
    by_cases hw : W = []
    · subst hw
      rfl
    · simp only [hw, if_false, List.append_eq_nil_iff, false_and]
      rfl
  simp only [goM, hgo]
  rw [ds_put hds rfl, hn]
  have : (if W = [] then [Dir.Mg.rev 9] else []).map (mgM 0 (eW W).id) = mW W := by
    unfold mW
    split <;> rfl
  rw [← this]
theorem pd_start {W : List (Int × Int)} (hW : Wt W) (h : W ≠ []) (v : Int) : Pd idF v W 0 [9] (eW W) := by
  refine ⟨eW_sd hW, by simp [eW], List.length_pos_iff.2 h, by simp [eW, h], by simp, fun n hn p hp => ?_, .inr ⟨by simp [eW], rfl, rfl⟩⟩
  simp only [List.mem_singleton] at hn
  have := (hW.ok p (by simpa using hp)).1
  omega
end Go.Abs.Na
namespace Go.Abs.Na
open Go Go.Proofs Go.Abs
set_option maxRecDepth 100000
set_option maxHeartbeats 4000000
set_option linter.unusedSimpArgs false
set_option linter.unusedVariables false
attribute [local simp] instA
attribute [-simp] mkv
attribute [local simp] mkv_hd hdA_cons hdA_ob hdA_ob'
noncomputable def faiS : SpecFn := mkS (fun x : Ops => [.list 1 (x.1.map byte)]) fun _ => (.bool true, [])
theorem faiS_eq (x : Ops) : faiS [.list 1 (x.1.map byte)] [] = some (.bool true, []) := mkS_eq (enc := fun x : Ops => [AV.list 1 (x.1.map byte)]) (fun _ _ _ => rfl) x
def dirF (g : Nat) (l : List En) : ABlk := { gen := g, kind := 2, elem := 95, size := 2, inl := false, rows := [[.int .i64 0, .list 41 (l.map enC)]] }
/-- A list that was added to, or nil. -/
def IsL (id s e : Nat) (h : NL ABlk) (P : AV) (l : List (List AV)) : Prop := (P = .nils ∧ l = []) ∨ ∃ g, P = .sl id g 0 l.length ∧ lk h id = some { gen := g, kind := 2, elem := e, size := s, inl := true, rows := l }
structure FaI (n : Nat) where
  Wn : List (Int × Int)
  P : AV
  H : NL ABlk
  hi : Wn.length ≤ n
  wt : Wt Wn
  g1 : lk H 80 = some (dirF 1 (lW Wn))
  hP : IsL 1536 2 120 H P (Wn.map askC)
structure FbI (Wn : List (Int × Int)) where
  j : Nat
  k : Nat
  v : Int
  e : En
  M : List (Dir.Mg Ob)
  g : List (Int × Int)
  H : NL ABlk
  dn : Dn idF v Wn k e M g
  jk : j + (Wn.length - k) ≤ 6
  hv : 5 ≤ v ∧ v ≤ 5 + j
  g1 : lk H 80 = some (dirF 1 [e])
/-- What holds after each return of a round. -/
structure FcI (Wn : List (Int × Int)) (k : Nat) (B : List Int) (v : Int) where
  j : Nat
  v' : Int
  e : En
  P : AV
  H : NL ABlk
  hj : j ≤ B.length
  g1 : lk H 80 = some (dirF 1 [e])
  cs : (j < B.length ∧ v' = v ∧ Pd idF v' Wn k (B.drop j) e ∧ IsL 3216 45 50 H P []) ∨ (j = B.length ∧ (v ≤ v' ∧ v' ≤ v + 1) ∧ ∃ M g, Dn idF v' Wn k e M g ∧ IsL 3216 45 50 H P ((M.map (mgM 0 idF)).map Msg.v))
theorem W.cutB {P : Program} {Q : AS → Prop} {a y : Code} {fs : List Fr} {σ : AS} {i : Nat} (M : AS → Prop) (h1 : W P Q a (.blk i :: .loop M :: fs) σ) (h2 : ∀ σ', M σ' → W P Q y fs σ') : W P Q a (.blk i :: .seq y :: fs) σ := by
  refine ⟨h1.h.mono fun e σ h => ?_⟩
  cases e with
  | normal => exact (h2 σ h).h
  | exit j =>
    have h : (if j = i then post P Q (.loop M :: fs) .normal σ else post P Q (.loop M :: fs) (.exit j) σ) := h
    show (if j = i then post P Q (.seq y :: fs) .normal σ else post P Q (.seq y :: fs) (.exit j) σ)
    split at h
    · rw [if_pos ‹_›]; exact (h2 σ h).h
    · rw [if_neg ‹_›]; exact h
  | _ => exact h
theorem fai_ok : FnC Try.prog 9 faiS := by
  obtain ⟨SS, hSS, hse⟩ := saneD_ex
  have sp : ∀ p ∈ ([(44, ⟨1, SS⟩), (45, ⟨1, askS⟩), (49, ⟨1, entS⟩), (47, ⟨1, retN⟩)] : NL Spec), FnC Try.prog p.1 p.2.fn := by
    simp only [List.mem_cons, List.not_mem_nil, or_false]
    rintro p (rfl | rfl | rfl | rfl)
    · exact hSS
    · exact ask_ok
    · exact ent_ok
    · exact retN_ok
  refine FnC.walk 9 (fn := Try.f9) Try.func9 rfl (by kernel_rfl) fun x => ?_
  obtain ⟨ops, hops⟩ := x
  change W _ (Ret _ _ (.bool true) []) _ _ ⟨207, [(0, .list 1 (ops.map byte))], []⟩
  have cap : ops.length ≤ 9223372036854775807 := by simpa [maxLen] using hops
  repeat' (first | refine ZV ?_ | refine ZB tm sp ?_ | refine ZH (fun hb => ?_) (fun hb => ?_) | refine ZJ (by conv => lhs; simp [hse]) ?_ | refine ZA (fun hb => ?_) (fun hb => ?_))
  obtain ⟨LD, hLD⟩ : ∃ L, leafs Try.prog 95 = L := ⟨_, rfl⟩
  refine W.nrmB 80 LD (by rfl) rfl ?_
  have hn0 : ∀ b, nrmL Try.prog LD [.int .i64 0, .nils] = b → b = [.int .i64 0, .list 41 (([] : List En).map enC)] := fun b hb => by
    rw [← hb, ← hLD, drLeafs]
    simp only [nrmL, nrmV, uE, cE, List.map_nil]
  obtain ⟨n, hn⟩ : ∃ n, min ops.length 6 = n := ⟨_, rfl⟩
  refine W.cutB (fun σ' => ∃ Wn, Wt Wn ∧ ∃ H, lk H 80 = some (dirF 1 (lW Wn)) ∧ AS.le ⟨207, [(3, .int .u64 idF), (4, .ptr 80 1 0 0), (5, .list 2 (Wn.map askC))], H⟩ σ') ?_ ?_
  rotate_left
  · clear hn0 hLD cap hn
    rintro σ' ⟨Wn, hW, H, g1, hle⟩
    refine W.weak hle ?_
    clear hle
    have w6 := hW.len
    have capW : Wn.length ≤ 9223372036854775807 := by omega
    by_cases hz : Wn = []
    · subst hz
      repeat' (first | refine ZV ?_ | refine ZB tm sp ?_ | refine ZH (fun hb => ?_) (fun hb => ?_) | refine ZJ (by conv => lhs; simp) ?_ | refine ZA (fun hb => ?_) (fun hb => ?_))
      all_goals (first | refine Ret.dataE rfl (by conv => lhs; simp) (by conv => lhs; simp) (by first | rfl | simp [inlT, inlV]) ?_ | refine RetNf.dataE rfl (by conv => lhs; simp) (by conv => lhs; simp) (by first | rfl | simp [inlT, inlV]) ?_)
      all_goals (first | rfl | (simp; done) | (simp_all; done) | (simp_all; omega))
    · have hz0 : ((Wn.length : Int) == 0) = false := by
        have := List.length_pos_iff.2 hz
        simp; omega
      obtain ⟨o1, o2⟩ := (eW_sd hW).okL (eW_ds Wn)
      have hlw : lW Wn = [eW Wn] := by simp [lW, hz]
      obtain ⟨e', M, s1, s2⟩ := pd_step (d := ⟨0, lW Wn, o1, o2⟩) (by decide) hW (pd_start hW hz 5) (by rfl) hlw (u := 5) idF_wf (by decide) (fun _ => rfl)
      have s2 : ∃ g, Dn idF 5 Wn 0 e' M g := by
        rcases s2 with ⟨_, h⟩ | ⟨h, _⟩
        · exact h
        · exact absurd rfl h
      obtain ⟨g, dn⟩ := s2
      have cr := retN_eq ⟨0, lW Wn, o1, o2⟩ idF 9 idF 5 idF_wf (by decide)
      rw [s1] at cr
      simp only [Drs.v, rD, deC] at cr
      simp only [dirF] at g1
      clear s1 hlw
      generalize lW Wn = l0 at *
      obtain ⟨ms, hms⟩ : ∃ ms, M.map (mgM 0 idF) = ms := ⟨_, rfl⟩
      rw [hms] at cr
      repeat' (first | refine ZV ?_ | refine ZB tm sp ?_ | refine ZH (fun hb => ?_) (fun hb => ?_) | refine ZJ (by conv => lhs; simp [capW, hz0, g1, cr]) ?_ | refine ZA (fun hb => ?_) (fun hb => ?_))
      subst hms
      refine W.loop rfl (ι := FbI Wn) (fun x => ⟨207, [(3, .int .u64 idF), (4, .ptr 80 1 0 0), (5, .list 2 (Wn.map askC)), (11, .int .i64 x.v), (12, .list 45 ((x.M.map (mgM 0 idF)).map Msg.v)), (13, .int .i64 0), (14, .int .i64 (x.k : Nat)), (15, .int .i64 (x.j : Nat))], x.H⟩) (fun x => 40 - x.j)
        ⟨0, 0, 5, e', M, g, _, dn, by omega, by omega, by simp [lk_st, dirF]⟩ (AS.le_of rfl ⟨rfl, rfl, rfl, rfl, rfl, rfl, rfl, rfl, trivial⟩ (fun _ => rfl)) ?_
      clear dn cr g1 hz0 o1 o2 s2 M g e' H l0
      rintro ⟨j, k, v, e, M, g, H, dn, jk, hv, g1⟩
      dsimp only at jk hv g1 ⊢
      obtain ⟨sd, gl, g0, gsp, ⟨w1, w2, hM⟩, nx⟩ := dn
      have gpos := List.length_pos_iff.2 g0
      have j40 : (j : Int) < 40 := by omega
      have j40' : j < 40 := by omega
      have k1 : (k : Int) ≤ Wn.length := by omega
      have k1' : k ≤ Wn.length := by omega
      obtain ⟨ms, hms⟩ : ∃ ms, M.map (mgM 0 idF) = ms := ⟨_, rfl⟩
      rw [hms]
      have hml : ms.length = g.length + e.waiting.length := by rw [← hms, hM]; simp
      have wl := asc_len (ascN_iff.2 ⟨fun n hn => (sd.wt.2 n hn).1, sd.wt.1⟩)
      have capM : ms.length ≤ 9223372036854775807 := by omega
      repeat' (first | refine ZV ?_ | refine ZB tm sp ?_ | refine ZH (fun hb => ?_) (fun hb => ?_) | refine ZJ (by conv => lhs; simp [j40, j40', k1, k1', capW, capM]) ?_ | refine ZA (fun hb => ?_) (fun hb => ?_))
      refine W.loop rfl (ι := { x : Nat × Nat × AV × NL ABlk // x.1 ≤ ms.length ∧ x.2.1 = k + min x.1 g.length ∧ lk x.2.2.2 80 = some (dirF 1 [e]) ∧ IsL 2160 1 3 x.2.2.2 x.2.2.1 ((e.waiting.take (x.1 - g.length)).map iC) })
        (fun x => ⟨207, [(3, .int .u64 idF), (4, .ptr 80 1 0 0), (5, .list 2 (Wn.map askC)), (11, .int .i64 v), (13, .int .i64 0), (14, .int .i64 (x.1.2.1 : Nat)), (15, .int .i64 (j : Nat)), (16, x.1.2.2.1), (121, .list 45 (ms.map Msg.v)), (122, .int .i64 ms.length), (123, .int .i64 (x.1.1 : Nat))], x.1.2.2.2⟩) (fun x => ms.length - x.1.1)
        ⟨(0, k, .nils, _), by simp, by simp, by simp [g1], .inl ⟨rfl, by simp⟩⟩ (AS.le_of rfl ⟨rfl, rfl, rfl, rfl, rfl, rfl, rfl, rfl, rfl, rfl, rfl, trivial⟩ (fun _ => rfl)) ?_
      clear g1 H
      rintro ⟨⟨m, c, P, H⟩, hm1, hc, g1, hP⟩
      dsimp only at hm1 hc g1 hP ⊢
      by_cases hmm : m = ms.length
      · subst hmm
        rw [show e.waiting.take (ms.length - g.length) = e.waiting from List.take_of_length_le (by omega)] at hP
        have hc2 : c = k + g.length := by omega
        refine W.accD 16 (id := 2160) (s := 1) (e := 3) (l := e.waiting.map iC) rfl hP fun H' hH => ?_
        rw [← hH 80 (by decide)] at g1
        clear hH hP hm1 H
        rw [← hc2] at nx gsp gl
        obtain ⟨B, hB⟩ : ∃ B, e.waiting = B := ⟨_, rfl⟩
        rw [hB] at nx wl ⊢
        have capB : B.length ≤ 9223372036854775807 := by omega
        rcases nx with ⟨n1, n2⟩ | pd
        · subst n1 n2
          repeat' (first | refine ZV ?_ | refine ZB tm sp ?_ | refine ZH (fun hb => ?_) (fun hb => ?_) | refine ZJ (by conv => lhs; simp) ?_ | refine ZA (fun hb => ?_) (fun hb => ?_))
          all_goals (first | refine Ret.dataE rfl (by conv => lhs; simp) (by conv => lhs; simp) (by first | rfl | simp [inlT, inlV]) ?_ | refine RetNf.dataE rfl (by conv => lhs; simp) (by conv => lhs; simp) (by first | rfl | simp [inlT, inlV]) ?_)
          all_goals (first | rfl | (simp; done) | (simp_all; done) | (simp_all; omega))
        · have bpos := List.length_pos_iff.2 pd.b0
          have hb0 : ((B.length : Int) == 0) = false := by simpa using pd.b0
          have kl := pd.kl
          clear hc gsp hM hms hml
          repeat' (first | refine ZV ?_ | refine ZB tm sp ?_ | refine ZH (fun hb => ?_) (fun hb => ?_) | refine ZJ (by conv => lhs; simp [hb0, capB]) ?_ | refine ZA (fun hb => ?_) (fun hb => ?_))
          refine W.loop rfl (ι := FcI Wn c B v) (fun x => ⟨207, [(3, .int .u64 idF), (4, .ptr 80 1 0 0), (5, .list 2 (Wn.map askC)), (11, .int .i64 x.v'), (12, x.P), (13, .int .i64 0), (14, .int .i64 (c : Nat)), (15, .int .i64 (j : Nat)), (172, .list 1 (B.map iC)), (173, .int .i64 B.length), (174, .int .i64 (x.j : Nat))], x.H⟩) (fun x => B.length - x.j)
            ⟨0, v, e, .nils, _, by omega, by simp [g1], .inl ⟨bpos, rfl, pd, .inl ⟨rfl, rfl⟩⟩⟩ (AS.le_of rfl ⟨rfl, rfl, rfl, rfl, rfl, rfl, rfl, rfl, rfl, rfl, rfl, trivial⟩ (fun _ => rfl)) ?_
          clear g1 H' pd
          rintro ⟨j2, v', e', P', H, hj2, g1, cs⟩
          dsimp only at hj2 g1 cs ⊢
          by_cases hjj : j2 = B.length
          · rcases cs with ⟨h, _⟩ | ⟨_, hv', M', g', dn', hP⟩
            · omega
            refine W.accD 12 (id := 3216) (s := 45) (e := 50) (l := (M'.map (mgM 0 idF)).map Msg.v) rfl hP fun H' hH => ?_
            rw [← hH 80 (by decide)] at g1
            clear hH hP
            obtain ⟨ms', hms'⟩ : ∃ ms', M'.map (mgM 0 idF) = ms' := ⟨_, rfl⟩
            rw [hms']
            have hwj : IntKind.i64.wrap ((j : Int) + 1) = ((j + 1 : Nat) : Int) := w64 (by omega) (by omega)
            subst hjj
            repeat' (first | refine ZV ?_ | refine ZB tm sp ?_ | refine ZH (fun hb => ?_) (fun hb => ?_) | refine ZJ (by conv => lhs; simp [hwj]) ?_ | refine ZA (fun hb => ?_) (fun hb => ?_))
            subst hms'
            exact ⟨⟨j + 1, c, v', e', M', g', _, dn', by omega, by omega, by simp [g1]⟩, by dsimp only; omega, AS.le_of rfl ⟨rfl, rfl, rfl, rfl, rfl, rfl, rfl, rfl, trivial⟩ (fun _ => rfl)⟩
          · rcases cs with ⟨_, rfl, pd, hP⟩ | ⟨h, _⟩
            rotate_left
            · omega
            obtain ⟨n, hr⟩ := get_lt (l := B) (i := j2) (by omega)
            have hd : B.drop j2 = n :: B.drop (j2 + 1) := by
              obtain ⟨h1, h2⟩ := List.getElem?_eq_some_iff.1 hr
              rw [List.drop_eq_getElem_cons h1, h2]
            rw [hd] at pd
            obtain ⟨l, hl⟩ : ∃ l, [e'] = l := ⟨_, rfl⟩
            rw [hl] at g1
            have hds : DS idF l e' := .inr ⟨hl.symm, pd.sd.hid⟩
            obtain ⟨p1, p2⟩ := pd.sd.okL hds
            have ce := entS_eq ⟨0, l, p1, p2⟩ idF
            rw [show fndD idF (⟨0, l, p1, p2⟩ : Drs).ents = e' from ds_fnd hds] at ce
            simp only [Drs.v, enX, ixiB, ixaB] at ce
            obtain ⟨u, hu⟩ : ∃ u, (if e'.owner = n then v' + 1 else v') = u := ⟨_, rfl⟩
            have hu1 : e'.owner ≠ n → u = v' := fun h => by rw [← hu, if_neg h]
            have hu2 : v' ≤ u ∧ u ≤ v' + 1 := by rw [← hu]; split <;> omega
            have uwf : (Lit.int .i64 u).wf = true := by
              simp [Lit.wf, IntKind.min, IntKind.max, IntKind.signed, IntKind.bits]
              omega
            obtain ⟨e2, M2, s1, s2⟩ := pd_step (d := ⟨0, l, p1, p2⟩) (by decide) hW pd (by rfl) hl.symm (u := u) idF_wf uwf hu1
            have cr := retN_eq ⟨0, l, p1, p2⟩ idF n idF u idF_wf uwf
            rw [s1] at cr
            simp only [Drs.v, rD, deC] at cr
            obtain ⟨ms2, hms2⟩ : ∃ ms2, M2.map (mgM 0 idF) = ms2 := ⟨_, rfl⟩
            rw [hms2] at cr
            have hm9 : ms2.length ≤ 9000 := by
              rw [← hms2, List.length_map]
              rcases s2 with ⟨_, g2, d2⟩ | ⟨_, rfl, _⟩
              · obtain ⟨_, _, h⟩ := d2.ms
                have wl := asc_len (ascN_iff.2 ⟨fun n hn => (d2.sd.wt.2 n hn).1, d2.sd.wt.1⟩)
                have := d2.gl
                rw [h]
                simp
                omega
              · simp
            have hcs : ∀ H P, IsL 3216 45 50 H P (ms2.map Msg.v) → ((j2 + 1 < B.length ∧ u = v' ∧ Pd idF u Wn c (B.drop (j2 + 1)) e2 ∧ IsL 3216 45 50 H P []) ∨ (j2 + 1 = B.length ∧ (v' ≤ u ∧ u ≤ v' + 1) ∧ ∃ M g, Dn idF u Wn c e2 M g ∧ IsL 3216 45 50 H P ((M.map (mgM 0 idF)).map Msg.v))) := fun H P h => by
              rcases s2 with ⟨h1, g2, d2⟩ | ⟨h1, rfl, h3, h4⟩
              · refine .inr ⟨?_, hu2, M2, g2, d2, by rw [hms2]; exact h⟩
                have := congrArg List.length h1
                simp at this
                omega
              · refine .inl ⟨?_, h3, h4, by rw [← hms2] at h; exact h⟩
                have := List.length_pos_iff.2 h1
                simp at this
                omega
            have hm : (B.map iC)[j2]? = some [.int .i64 n] := by rw [List.getElem?_map, hr]; rfl
            have q1 : (j2 : Int) < B.length := by omega
            have q2 : ¬ B.length ≤ j2 := by omega
            have hw : IntKind.i64.wrap ((j2 : Int) + 1) = ((j2 + 1 : Nat) : Int) := w64 (by omega) (by omega)
            have y1 : ms2.length ≤ maxLen := by simp only [maxLen]; omega
            have y2 : ms2.length * 536 ≤ 140737488355328 := by omega
            have hlt : j2 < B.length := by omega
            simp only [dirF] at g1
            clear s1 s2 hd pd hjj hds
            by_cases ho : e'.owner = n
            · have hob : (e'.owner == n) = true := by simp [ho]
              rw [if_pos ho] at hu
              have hv1 : IntKind.i64.wrap (v' + 1) = u := by rw [hu]; exact w64 (by omega) (by omega)
              rcases hP with ⟨rfl, -⟩ | ⟨g2, hP, hb⟩
              · repeat' (first | refine ZV ?_ | refine ZB tm sp ?_ | refine ZH (fun hb => ?_) (fun hb => ?_) | refine ZJ (by conv => lhs; simp [q1, q2, hm, hw, g1, ce, cr, hob, hv1, y1, y2]) ?_ | refine ZA (fun hb => ?_) (fun hb => ?_))
                exact ⟨⟨j2 + 1, u, e2, .sl 3216 _ 0 ms2.length, _, by omega, by simp [lk_st, dirF], hcs _ _ (.inr ⟨_, by rw [List.length_map], by simp [lk_st]⟩)⟩, by dsimp only; omega, AS.le_of rfl ⟨rfl, rfl, rfl, rfl, rfl, rfl, rfl, rfl, rfl, rfl, rfl, trivial⟩ (fun _ => rfl)⟩
              · have hP : P' = .sl 3216 g2 0 0 := hP
                subst hP
                repeat' (first | refine ZV ?_ | refine ZB tm sp ?_ | refine ZH (fun hb => ?_) (fun hb => ?_) | refine ZJ (by conv => lhs; simp [q1, q2, hm, hw, g1, ce, cr, hob, hv1, y1, y2, hb]) ?_ | refine ZA (fun hb => ?_) (fun hb => ?_))
                exact ⟨⟨j2 + 1, u, e2, .sl 3216 _ 0 ms2.length, _, by omega, by simp [lk_st, dirF], hcs _ _ (.inr ⟨_, by rw [List.length_map], by simp [lk_st]⟩)⟩, by dsimp only; omega, AS.le_of rfl ⟨rfl, rfl, rfl, rfl, rfl, rfl, rfl, rfl, rfl, rfl, rfl, trivial⟩ (fun _ => rfl)⟩
            · have hob : (e'.owner == n) = false := by simp [ho]
              rw [if_neg ho] at hu
              subst hu
              rcases hP with ⟨rfl, -⟩ | ⟨g2, hP, hb⟩
              · repeat' (first | refine ZV ?_ | refine ZB tm sp ?_ | refine ZH (fun hb => ?_) (fun hb => ?_) | refine ZJ (by conv => lhs; simp [q1, q2, hm, hw, g1, ce, cr, hob, y1, y2]) ?_ | refine ZA (fun hb => ?_) (fun hb => ?_))
                exact ⟨⟨j2 + 1, v', e2, .sl 3216 _ 0 ms2.length, _, by omega, by simp [lk_st, dirF], hcs _ _ (.inr ⟨_, by rw [List.length_map], by simp [lk_st]⟩)⟩, by dsimp only; omega, AS.le_of rfl ⟨rfl, rfl, rfl, rfl, rfl, rfl, rfl, rfl, rfl, rfl, rfl, trivial⟩ (fun _ => rfl)⟩
              · have hP : P' = .sl 3216 g2 0 0 := hP
                subst hP
                repeat' (first | refine ZV ?_ | refine ZB tm sp ?_ | refine ZH (fun hb => ?_) (fun hb => ?_) | refine ZJ (by conv => lhs; simp [q1, q2, hm, hw, g1, ce, cr, hob, y1, y2, hb]) ?_ | refine ZA (fun hb => ?_) (fun hb => ?_))
                exact ⟨⟨j2 + 1, v', e2, .sl 3216 _ 0 ms2.length, _, by omega, by simp [lk_st, dirF], hcs _ _ (.inr ⟨_, by rw [List.length_map], by simp [lk_st]⟩)⟩, by dsimp only; omega, AS.le_of rfl ⟨rfl, rfl, rfl, rfl, rfl, rfl, rfl, rfl, rfl, rfl, rfl, trivial⟩ (fun _ => rfl)⟩
      · have q1 : (m : Int) < ms.length := by omega
        have q2 : ¬ ms.length ≤ m := by omega
        have hw : IntKind.i64.wrap ((m : Int) + 1) = ((m + 1 : Nat) : Int) := w64 (by omega) (by omega)
        by_cases hmg : m < g.length
        · obtain ⟨⟨a, md⟩, hg⟩ := get_lt hmg
          have hrow : (ms.map Msg.v)[m]? = some (graM 0 idF a md (deO idF v w1 w2)).v := by
            rw [← hms, hM, List.getElem?_map, List.getElem?_map, List.getElem?_append_left (by simpa using hmg), List.getElem?_map, hg]
            rfl
          have hcm : c = k + m := by omega
          have hWr : (Wn.map askC)[c]? = some [.int .i64 a, .int .i64 md] := by
            have : (Wn.drop k)[m]? = some (a, md) := by rw [gsp, List.getElem?_append_left hmg]; exact hg
            rw [List.getElem?_drop] at this
            rw [hcm, List.getElem?_map, this]
            rfl
          have c1 : (c : Int) < Wn.length := by omega
          have c2 : ¬ Wn.length ≤ c := by omega
          have hwc : IntKind.i64.wrap ((c : Int) + 1) = ((c + 1 : Nat) : Int) := w64 (by omega) (by omega)
          simp only [graM, Msg.v, deO, deN, List.cons_append, List.nil_append] at hrow
          have ht : e.waiting.take (m + 1 - g.length) = e.waiting.take (m - g.length) := by rw [show m + 1 - g.length = 0 by omega, show m - g.length = 0 by omega]
          simp only [dirF] at g1
          repeat' (first | refine ZV ?_ | refine ZB tm sp ?_ | refine ZH (fun hb => ?_) (fun hb => ?_) | refine ZJ (by conv => lhs; simp [q1, q2, hw, hrow, hWr, c1, c2, hwc, capW]) ?_ | refine ZA (fun hb => ?_) (fun hb => ?_))
          exact ⟨⟨(m + 1, c + 1, P, _), by dsimp only; omega, by dsimp only; omega, by simp [lk_st, dirF, g1], by
            dsimp only
            rw [ht]
            rcases hP with ⟨e1, e2⟩ | ⟨g', e1, hb⟩
            · exact .inl ⟨e1, e2⟩
            · exact .inr ⟨g', e1, by simp [lk_st, hb]⟩⟩, by dsimp only; omega, AS.le_of rfl ⟨rfl, rfl, rfl, rfl, rfl, rfl, rfl, rfl, rfl, rfl, rfl, trivial⟩ (fun _ => rfl)⟩
        · obtain ⟨to, hto⟩ := get_lt (l := e.waiting) (i := m - g.length) (by omega)
          have hrow : (ms.map Msg.v)[m]? = some (revM 0 idF to).v := by
            rw [← hms, hM, List.getElem?_map, List.getElem?_map, List.getElem?_append_right (by simpa using hmg), List.length_map, List.getElem?_map, hto]
            rfl
          simp only [revM, Msg.v] at hrow
          have ht : e.waiting.take (m + 1 - g.length) = e.waiting.take (m - g.length) ++ [to] := by rw [show m + 1 - g.length = m - g.length + 1 by omega, List.take_add_one, hto]; rfl
          have htl : (e.waiting.take (m - g.length)).length ≤ 128 := by simp; omega
          generalize e.waiting.take (m - g.length) = T at *
          have y1 : T.length ≤ maxLen := by simp only [maxLen]; omega
          have y2 : (T.length + 1) * 8 ≤ 140737488355328 := by omega
          have y4 : T.length + 1 ≤ maxLen := by simp only [maxLen]; omega
          have fT : firstRows T.length (T.map iC) = T.map iC := first_all (by simp)
          simp only [dirF] at g1
          rcases hP with ⟨rfl, e2⟩ | ⟨g', rfl, hb⟩
          · have e3 := List.map_eq_nil_iff.1 e2
            repeat' (first | refine ZV ?_ | refine ZB tm sp ?_ | refine ZH (fun hb => ?_) (fun hb => ?_) | refine ZJ (by conv => lhs; simp [q1, q2, hw, hrow, m1]) ?_ | refine ZA (fun hb => ?_) (fun hb => ?_))
            exact ⟨⟨(m + 1, c, .sl 2160 _ 0 1, _), by dsimp only; omega, by dsimp only; omega, by simp [lk_st, dirF, g1], .inr ⟨_, by simp [ht, e3]; rfl, by simp [lk_st, ht, e3, iC]⟩⟩, by dsimp only; omega, AS.le_of rfl ⟨rfl, rfl, rfl, rfl, rfl, rfl, rfl, rfl, rfl, rfl, rfl, trivial⟩ (fun _ => rfl)⟩
          · rw [List.length_map] at *
            repeat' (first | refine ZV ?_ | refine ZB tm sp ?_ | refine ZH (fun hb => ?_) (fun hb => ?_) | refine ZJ (by conv => lhs; simp [q1, q2, hw, hrow, hb, y1, y2, y4, fT, m1]) ?_ | refine ZA (fun hb => ?_) (fun hb => ?_))
            exact ⟨⟨(m + 1, c, .sl 2160 (g' + 1) 0 (T.length + 1), _), by dsimp only; omega, by dsimp only; omega, by simp [lk_st, dirF, g1], .inr ⟨g' + 1, by simp [ht], by simp [lk_st, ht, iC]⟩⟩, by dsimp only; omega, AS.le_of rfl ⟨rfl, rfl, rfl, rfl, rfl, rfl, rfl, rfl, rfl, rfl, rfl, trivial⟩ (fun _ => rfl)⟩
  refine W.loop rfl (ι := FaI n) (fun x => ⟨207, [(0, .list 1 (ops.map byte)), (3, .int .u64 idF), (4, .ptr 80 1 0 0), (5, x.P), (6, .int .i64 (x.Wn.length : Nat))], x.H⟩) (fun x => n - x.Wn.length)
    ⟨[], .nils, _, by simp, ⟨by simp, fun i p h => by simp at h, by simp⟩, by simp [lk_st, dirF, lW, hn0 _ rfl], .inl ⟨rfl, rfl⟩⟩ (AS.le_of rfl ⟨rfl, rfl, rfl, rfl, rfl, trivial⟩ (fun _ => rfl)) ?_
  rintro ⟨Wn, P, H, hi, hW, g1, hP⟩
  dsimp only
  by_cases hie : Wn.length = n
  · refine W.accD 5 (id := 1536) (s := 2) (e := 120) (l := Wn.map askC) rfl hP fun H' hH => ?_
    rw [← hH 80 (by decide)] at g1
    clear hP hH
    have w6 := hW.len
    by_cases p1 : Wn.length < ops.length
    · have p2 : ¬ (Wn.length : Int) < 6 := by omega
      have p2' : ¬ Wn.length < 6 := by omega
      repeat' (first | refine ZV ?_ | refine ZB tm sp ?_ | refine ZH (fun hb => ?_) (fun hb => ?_) | refine ZJ (by conv => lhs; simp [p1, p2, p2']) ?_ | refine ZA (fun hb => ?_) (fun hb => ?_))
      exact ⟨Wn, hW, H', g1, AS.le_of rfl ⟨rfl, rfl, rfl, trivial⟩ (fun _ => rfl)⟩
    · repeat' (first | refine ZV ?_ | refine ZB tm sp ?_ | refine ZH (fun hb => ?_) (fun hb => ?_) | refine ZJ (by conv => lhs; simp [p1]) ?_ | refine ZA (fun hb => ?_) (fun hb => ?_))
      exact ⟨Wn, hW, H', g1, AS.le_of rfl ⟨rfl, rfl, rfl, trivial⟩ (fun _ => rfl)⟩
  · have hlt : Wn.length < n := by omega
    obtain ⟨b, hb⟩ := get_lt (l := ops) (i := Wn.length) (by omega)
    have hm : (ops.map byte)[Wn.length]? = some [.int .u8 b.toNat] := by rw [List.getElem?_map, hb]; rfl
    have q1 : (Wn.length : Int) < ops.length := by omega
    have q1' : Wn.length < ops.length := by omega
    have q2 : ¬ ops.length ≤ Wn.length := by omega
    have q3 : (Wn.length : Int) < 6 := by omega
    have q3' : Wn.length < 6 := by omega
    have hw1 : IntKind.i64.wrap ((Wn.length : Int) + 1) = ((Wn.length + 1 : Nat) : Int) := w64 (by omega) (by omega)
    obtain ⟨c, hc, ec⟩ := tmod_nat (x := (b.toNat : Int)) (m := 2) (by omega) (by omega)
    have ec : (b.toNat : Int).tmod 2 = (c : Int) := ec
    have ec2 : (b.toNat : Int) % 2 = (c : Int) := ec
    obtain ⟨m, hmc⟩ : ∃ m : Int, IntKind.i64.wrap (1 + IntKind.i64.wrap (c : Int)) = m := ⟨_, rfl⟩
    have hmv : m = 1 ∨ m = 2 := by
      rw [← hmc]
      rcases (show c = 0 ∨ c = 1 by omega) with rfl | rfl
      · exact .inl (by decide)
      · exact .inr (by decide)
    obtain ⟨o1, o2⟩ := (eW_sd hW).okL (eW_ds Wn)
    have ca := askS_eq ⟨0, lW Wn, o1, o2⟩ idF (Wn.length : Int) m
    rw [ask_w hW q3' hmv rfl rfl] at ca
    simp only [Drs.v, rD] at ca
    have hWs := wt_snoc hW q3' hmv
    have hlw : lW (Wn ++ [((Wn.length : Int), m)]) = [eW (Wn ++ [((Wn.length : Int), m)])] := by simp [lW]
    have hrow : Wn.map askC ++ [[.int .i64 (Wn.length : Int), .int .i64 m]] = (Wn ++ [((Wn.length : Int), m)]).map askC := by simp [askC]
    have hlen : (Wn ++ [((Wn.length : Int), m)]).length = Wn.length + 1 := by simp
    simp only [dirF] at g1
    generalize lW Wn = l at *
    generalize hW2 : Wn ++ [((Wn.length : Int), m)] = W2 at *
    rw [← hlen] at hw1
    generalize eW W2 = e2 at *
    have y1 : Wn.length ≤ maxLen := by simp only [maxLen]; omega
    have y2 : (Wn.length + 1) * 16 ≤ 140737488355328 := by omega
    have y4 : Wn.length + 1 ≤ maxLen := by simp only [maxLen]; omega
    have fW : firstRows Wn.length (Wn.map askC) = Wn.map askC := first_all (by simp)
    by_cases hz : Wn = []
    · have hz0 : ((Wn.length : Int) == 0) = true := by simp [hz]
      have hz1 : ¬ 0 < Wn.length := by simp [hz]
      rw [show mW Wn = [revM 0 idF 9] by rw [mW, if_pos hz]] at ca
      simp only [revM, Msg.v, List.map_cons, List.map_nil] at ca
      rcases hP with ⟨rfl, hP⟩ | ⟨g, rfl, hP⟩
      · repeat' (first | refine ZV ?_ | refine ZB tm sp ?_ | refine ZH (fun hb => ?_) (fun hb => ?_) | refine ZJ (by conv => lhs; simp [q1, q2, q3, q3', hm, hw1, ec, ec2, hmc, g1, ca, hz0, hz1, m1]) ?_ | refine ZA (fun hb => ?_) (fun hb => ?_))
        exact ⟨⟨W2, .sl 1536 _ 0 1, _, by omega, hWs, by simp [lk_st, dirF, hlw], .inr ⟨_, by simp [hlen, hz]; rfl, by simp [lk_st, ← hrow, hP]⟩⟩, by dsimp only; omega, AS.le_of rfl ⟨rfl, rfl, rfl, rfl, rfl, trivial⟩ (fun _ => rfl)⟩
      · rw [List.length_map] at *
        repeat' (first | refine ZV ?_ | refine ZB tm sp ?_ | refine ZH (fun hb => ?_) (fun hb => ?_) | refine ZJ (by conv => lhs; simp [q1, q2, q3, q3', hm, hw1, ec, ec2, hmc, g1, ca, hz0, hz1, hP, y1, y2, y4, fW, m1]) ?_ | refine ZA (fun hb => ?_) (fun hb => ?_))
        exact ⟨⟨W2, .sl 1536 (g + 1) 0 (Wn.length + 1), _, by omega, hWs, by simp [lk_st, dirF, hlw], .inr ⟨g + 1, by simp [hlen], by simp [lk_st, ← hrow]⟩⟩, by dsimp only; omega, AS.le_of rfl ⟨rfl, rfl, rfl, rfl, rfl, trivial⟩ (fun _ => rfl)⟩
    · have hz0 : ((Wn.length : Int) == 0) = false := by
        have := List.length_pos_iff.2 hz
        simp; omega
      have hz1 : 0 < Wn.length := by
        have := List.length_pos_iff.2 hz
        omega
      rw [show mW Wn = [] by rw [mW, if_neg hz]] at ca
      rcases hP with ⟨rfl, hP⟩ | ⟨g, rfl, hP⟩
      · exact absurd (List.map_eq_nil_iff.1 hP) hz
      · rw [List.length_map] at *
        repeat' (first | refine ZV ?_ | refine ZB tm sp ?_ | refine ZH (fun hb => ?_) (fun hb => ?_) | refine ZJ (by conv => lhs; simp [q1, q2, q3, q3', hm, hw1, ec, ec2, hmc, g1, ca, hz0, hz1, hP, y1, y2, y4, fW, m1]) ?_ | refine ZA (fun hb => ?_) (fun hb => ?_))
        exact ⟨⟨W2, .sl 1536 (g + 1) 0 (Wn.length + 1), _, by omega, hWs, by simp [lk_st, dirF, hlw], .inr ⟨g + 1, by simp [hlen], by simp [lk_st, ← hrow]⟩⟩, by dsimp only; omega, AS.le_of rfl ⟨rfl, rfl, rfl, rfl, rfl, trivial⟩ (fun _ => rfl)⟩
end Go.Abs.Na
