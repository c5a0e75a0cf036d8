/- The reference of directories: lists of nodes. Conditions: none. -/
import Derived.Test.YtlakgienobmpbaaGreatNz6
import Derived.Test.YtlakgienobmpbaaGreatAb9
namespace Go.Abs.Nz
open Go Go.Proofs Go.Abs
set_option maxRecDepth 100000
set_option maxHeartbeats 4000000
set_option linter.unusedSimpArgs false
set_option linter.unusedVariables false
attribute [local simp] instA slice3A slice3C
theorem rnode_ok : FnC Tryz.prog 68 (boS okN) := by
  refine FnC.walk 68 (fn := Tryz.f68) Tryz.func68 rfl (by kernel_rfl) fun m => ?_
  change W _ (Ret _ _ (.bool (okN m)) []) _ _ ⟨9, [(0, .int .i64 m)], []⟩
  repeat' (first | refine ZV ?_ | refine ZB tm no_specs ?_ | refine ZH (fun hb => ?_) (fun hb => ?_) | refine ZJ (by conv => lhs; simp) ?_ | refine ZA (fun hb => ?_) (fun hb => ?_))
  all_goals (first | refine Ret.dataE rfl (by conv => lhs; simp) (by conv => lhs; simp) (by first | rfl | simp [inlT, inlV]) ?_ | refine RetNf.dataE rfl (by conv => lhs; simp) (by conv => lhs; simp) (by first | rfl | simp [inlT, inlV]) ?_)
  all_goals (first | rfl | (simp [okN]; done) | (simp_all [okN]; done) | (simp_all [okN]; omega))
noncomputable def rnodes_specs : NL Spec := [(68, ⟨1, boS okN⟩)]
theorem rnodes_specs_ok : ∀ p ∈ rnodes_specs, FnC Tryz.prog p.1 p.2.fn := by
  simp only [rnodes_specs, List.mem_cons, List.not_mem_nil, or_false]
  rintro p rfl
  exact rnode_ok
attribute [local simp] rnodes_specs
theorem rnodes_ok : FnC Tryz.prog 129 (ilS ascN) := by
  refine FnC.walk 129 (fn := Tryz.f129) Tryz.func129 rfl (by kernel_rfl) fun d => ?_
  obtain ⟨l, hl⟩ := d
  change W _ (Ret _ _ (.bool (ascN l)) []) _ _ ⟨29, [(0, .list 1 (l.map iC))], []⟩
  have cap : l.length ≤ 9223372036854775807 := by omega
  repeat' (first | refine ZV ?_ | refine ZB tm rnodes_specs_ok ?_ | refine ZH (fun hb => ?_) (fun hb => ?_) | refine ZJ (by conv => lhs; simp [cap]) ?_ | refine ZA (fun hb => ?_) (fun hb => ?_))
  refine W.loop rfl (ι := { q : Nat × NL ABlk // q.1 ≤ l.length ∧ (∀ j, j < q.1 → goodN l j = true) })
    (fun q => ⟨29, [(0, .list 1 (l.map iC)), (5, .list 1 (l.map iC)), (6, .int .i64 l.length), (7, .int .i64 (q.1.1 : Nat))], q.1.2⟩) (fun q => l.length - q.1.1)
    ⟨(0, _), by simp, fun j hj => absurd hj (by simp)⟩ (AS.le_of rfl ⟨rfl, rfl, rfl, rfl, trivial⟩ (fun _ => rfl)) ?_
  rintro ⟨⟨k, h⟩, hk, hg⟩
  dsimp only at hk hg ⊢
  by_cases hk2 : k = l.length
  · subst hk2
    rw [ascN_yes hg]
    repeat' (first | refine ZV ?_ | refine ZB tm rnodes_specs_ok ?_ | refine ZH (fun hb => ?_) (fun hb => ?_) | refine ZJ (by conv => lhs; simp) ?_ | refine ZA (fun hb => ?_) (fun hb => ?_))
    all_goals (first | refine Ret.dataE rfl (by conv => lhs; simp) (by conv => lhs; simp) (by first | rfl | simp [inlT, inlV]) ?_ | refine RetNf.dataE rfl (by conv => lhs; simp) (by conv => lhs; simp) (by first | rfl | simp [inlT, inlV]) ?_)
    all_goals (first | rfl | (simp; done) | (simp_all; done) | (simp_all; omega))
  · have hlt : k < l.length := by omega
    obtain ⟨t, hr⟩ := get_lt hlt
    have hm : (l.map iC)[k]? = some [.int .i64 t] := by rw [List.getElem?_map, hr]; rfl
    have q1 : (k : Int) < l.length := by omega
    have q2 : ¬ l.length ≤ k := by omega
    have hw : IntKind.i64.wrap ((k : Int) + 1) = ((k + 1 : Nat) : Int) := w64 (by omega) (by omega)
    have cf := boS_eq okN t
    cases hf : okN t with
    | false =>
      rw [hf] at cf
      rw [ascN_no hlt (by simp [goodN, hr, hf])]
      repeat' (first | refine ZV ?_ | refine ZB tm rnodes_specs_ok ?_ | refine ZH (fun hb => ?_) (fun hb => ?_) | refine ZJ (by conv => lhs; simp [q1, q2, hm, cf]) ?_ | refine ZA (fun hb => ?_) (fun hb => ?_))
      all_goals (first | refine Ret.dataE rfl (by conv => lhs; simp) (by conv => lhs; simp) (by first | rfl | simp [inlT, inlV]) ?_ | refine RetNf.dataE rfl (by conv => lhs; simp) (by conv => lhs; simp) (by first | rfl | simp [inlT, inlV]) ?_)
      all_goals (first | rfl | (simp; done) | (simp_all; done) | (simp_all; omega))
    | true =>
      rw [hf] at cf
      by_cases hz : k = 0
      · have hgk : goodN l k = true := by subst hz; simp [goodN, hr, hf]
        have hgn : ∀ j, j < k + 1 → goodN l j = true := fun j hj => by
          have h0 : j = k := by omega
          subst h0
          exact hgk
        have q5 : ¬ (0 : Int) < (k : Int) := by omega
        have q6 : ¬ 0 < k := by omega
        clear hz
        repeat' (first | refine ZV ?_ | refine ZB tm rnodes_specs_ok ?_ | refine ZH (fun hb => ?_) (fun hb => ?_) | refine ZJ (by conv => lhs; simp [q1, q2, q5, q6, hm, cf, hw]) ?_ | refine ZA (fun hb => ?_) (fun hb => ?_))
        exact ⟨⟨(k + 1, _), hlt, hgn⟩, by dsimp only; omega, AS.le_of rfl ⟨rfl, rfl, rfl, rfl, trivial⟩ (fun _ => rfl)⟩
      · obtain ⟨j, hj⟩ : ∃ j, k = j + 1 := ⟨k - 1, by omega⟩
        obtain ⟨s, hs⟩ := get_lt (l := l) (i := j) (by omega)
        have hms : (l.map iC)[j]? = some [.int .i64 s] := by rw [List.getElem?_map, hs]; rfl
        have q3 : ¬ l.length ≤ j := by omega
        have q4 : (0 : Int) < (k : Int) := by omega
        have q4' : 0 < k := by omega
        have hd : IntKind.i64.wrap ((k : Int) - 1) = (j : Int) := by rw [w64 (by omega) (by omega)]; omega
        have q1' : (j : Int) < l.length := by omega
        by_cases hc : s < t
        · have hgk : goodN l k = true := by subst hj; simp [goodN, hr, hf, hs, hc]
          have hc2 : ¬ t ≤ s := by omega
          have hgn : ∀ i, i < k + 1 → goodN l i = true := fun i hi => by
            by_cases e : i = k
            · subst e
              exact hgk
            · exact hg i (by omega)
          repeat' (first | refine ZV ?_ | refine ZB tm rnodes_specs_ok ?_ | refine ZH (fun hb => ?_) (fun hb => ?_) | refine ZJ (by conv => lhs; simp [q1, q1', q2, q3, q4, q4', hm, hms, cf, hw, hd, hc2]) ?_ | refine ZA (fun hb => ?_) (fun hb => ?_))
          exact ⟨⟨(k + 1, _), hlt, hgn⟩, by dsimp only; omega, AS.le_of rfl ⟨rfl, rfl, rfl, rfl, trivial⟩ (fun _ => rfl)⟩
        · rw [ascN_no hlt (by subst hj; simp [goodN, hr, hf, hs, hc])]
          have hc2 : t ≤ s := by omega
          repeat' (first | refine ZV ?_ | refine ZB tm rnodes_specs_ok ?_ | refine ZH (fun hb => ?_) (fun hb => ?_) | refine ZJ (by conv => lhs; simp [q1, q1', q2, q3, q4, q4', hm, hms, cf, hw, hd, hc2]) ?_ | refine ZA (fun hb => ?_) (fun hb => ?_))
          all_goals (first | refine Ret.dataE rfl (by conv => lhs; simp) (by conv => lhs; simp) (by first | rfl | simp [inlT, inlV]) ?_ | refine RetNf.dataE rfl (by conv => lhs; simp) (by conv => lhs; simp) (by first | rfl | simp [inlT, inlV]) ?_)
          all_goals (first | rfl | (simp; done) | (simp_all; done) | (simp_all; omega))
noncomputable def rzero_specs : NL Spec := [(124, ⟨1, brS⟩)]
theorem rzero_specs_ok : ∀ p ∈ rzero_specs, FnC Tryz.prog p.1 p.2.fn := by
  simp only [rzero_specs, List.mem_cons, List.not_mem_nil, or_false]
  rintro p rfl
  exact br_ok
attribute [local simp] rzero_specs
theorem rzero_ok : FnC Tryz.prog 81 zeS := by
  refine FnC.walk 81 (fn := Tryz.f81) Tryz.func81 rfl (by kernel_rfl) fun d => ?_
  dsimp only
  have k1 := brS_eq d
  have k2 := onS_eq d
  obtain ⟨p0, p1, p2, q0, q1, q2, z0, z1, z2, z3, z4, z5, z6, z7, z8, p5, p6, p7, p8, p9, x0, x1, x2, x4, x5, x6, x7, x8, x9, x10, x11, x12, x13, x14, x15, x16, hd, -, -, -⟩ := obView d
  have hz : zO? d = ((x0 == 0) && ((x1 == 0) && bareZ d.cells)) := by unfold zO?; rw [hd]
  rw [hz]
  generalize bareZ d.cells = b at *
  rw [hd] at k1 k2 ⊢
  clear hz hd d
  change W _ (Ret _ _ (.bool ((x0 == 0) && ((x1 == 0) && b))) []) _ _ ⟨15, [(0, .agg [.int .u64 x0, .int .i64 x1, .int .i64 x2, .int .i64 p0, .int .u64 p1, .list 1 p2, .list 4 q0, .list 1 q1, .int .i64 q2, .int .i64 z0, .int .i64 z1, .int .i64 z2, .int .i64 z3, .int .i64 z4, .int .i64 z5, .int .i64 z6, .int .i64 z7, .int .i64 z8, .list 2 p5, .list 4 p6, .int .i64 p7, .int .i64 p8, .int .i64 p9, .list 1 x4, .list 1 x5, .int .i64 x6, .int .u64 x7, .int .i64 x8, .int .i64 x9, .list 1 x10, .list 1 x11, .list 1 x12, .int .i64 x13, .int .i64 x14, .int .i64 x15, .list 3 x16])], []⟩
  dsimp only
  cases h1 : (x0 == 0) with
  | false =>
    repeat (first | refine ZS ?_ | refine ZK tm rzero_specs_ok rfl (by conv => lhs; simp [k1, k2, h1]) fun _ => ?_ | refine ZL tm rzero_specs_ok rfl (by conv => lhs; simp [k1, k2, h1]) fun _ => ?_)
    simp only [h1, Bool.true_and, Bool.false_and, Bool.and_false]
    first | exact Ret.dataR rfl (by conv => lhs; simp) (by conv => lhs; simp) (by first | rfl | simp [inlT, inlV]) | fail "no return here"
  | true =>
    cases h2 : (x1 == 0) with
    | false =>
      repeat (first | refine ZS ?_ | refine ZK tm rzero_specs_ok rfl (by conv => lhs; simp [k1, k2, h1, h2]) fun _ => ?_ | refine ZL tm rzero_specs_ok rfl (by conv => lhs; simp [k1, k2, h1, h2]) fun _ => ?_)
      simp only [h1, h2, Bool.true_and, Bool.false_and, Bool.and_false]
      first | exact Ret.dataR rfl (by conv => lhs; simp) (by conv => lhs; simp) (by first | rfl | simp [inlT, inlV]) | fail "no return here"
    | true =>
      repeat (first | refine ZS ?_ | refine ZK tm rzero_specs_ok rfl (by conv => lhs; simp [k1, k2, h1, h2]) fun _ => ?_ | refine ZL tm rzero_specs_ok rfl (by conv => lhs; simp [k1, k2, h1, h2]) fun _ => ?_)
      simp only [h1, h2, Bool.true_and, Bool.and_true]
      first | exact Ret.dataR rfl (by conv => lhs; simp) (by conv => lhs; simp) (by first | rfl | simp [inlT, inlV]) | fail "no return here"
abbrev Il := {l : List Int // l.length ≤ 9000}
noncomputable def hasS : SpecFn := mkS (fun d : Il × Int => [.list 1 (d.1.1.map iC), .int .i64 d.2]) fun d => (.bool (decide (d.2 ∈ d.1.1)), [])
theorem hasS_eq (l : List Int) (h : l.length ≤ 9000) (n : Int) : hasS [.list 1 (l.map iC), .int .i64 n] [] = some (.bool (decide (n ∈ l)), []) :=
  mkS_eq (enc := fun d : Il × Int => [AV.list 1 (d.1.1.map iC), .int .i64 d.2]) (res := fun d => (.bool (decide (d.2 ∈ d.1.1)), [])) (fun x y h => by
    obtain ⟨⟨l, hl⟩, n⟩ := x
    obtain ⟨⟨l', hl'⟩, n'⟩ := y
    simp only [List.cons.injEq, AV.list.injEq, AV.int.injEq, true_and, and_true] at h
    obtain ⟨h, rfl⟩ := h
    cases iC_inj h
    rfl) (⟨l, h⟩, n)
theorem rhas_ok : FnC Tryz.prog 69 hasS := by
  refine FnC.walk 69 (fn := Tryz.f69) Tryz.func69 rfl (by kernel_rfl) fun d => ?_
  obtain ⟨⟨l, hl⟩, n⟩ := d
  change W _ (Ret _ _ (.bool (decide (n ∈ l))) []) _ _ ⟨17, [(0, .list 1 (l.map iC)), (1, .int .i64 n)], []⟩
  have cap : l.length ≤ 9223372036854775807 := by omega
  repeat' (first | refine ZV ?_ | refine ZB tm no_specs ?_ | refine ZH (fun hb => ?_) (fun hb => ?_) | refine ZJ (by conv => lhs; simp [cap]) ?_ | refine ZA (fun hb => ?_) (fun hb => ?_))
  refine W.loop rfl (ι := { q : Nat × NL ABlk // q.1 ≤ l.length ∧ n ∉ l.take q.1 })
    (fun q => ⟨17, [(1, .int .i64 n), (7, .list 1 (l.map iC)), (8, .int .i64 l.length), (9, .int .i64 (q.1.1 : Nat))], q.1.2⟩) (fun q => l.length - q.1.1)
    ⟨(0, _), by simp, by simp⟩ (AS.le_of rfl ⟨rfl, rfl, rfl, rfl, trivial⟩ (fun _ => rfl)) ?_
  rintro ⟨⟨k, h⟩, hk, hg⟩
  dsimp only at hk hg ⊢
  by_cases hk2 : k = l.length
  · subst hk2
    rw [List.take_length] at hg
    rw [decide_eq_false hg]
    repeat' (first | refine ZV ?_ | refine ZB tm no_specs ?_ | refine ZH (fun hb => ?_) (fun hb => ?_) | refine ZJ (by conv => lhs; simp) ?_ | refine ZA (fun hb => ?_) (fun hb => ?_))
    all_goals (first | refine Ret.dataE rfl (by conv => lhs; simp) (by conv => lhs; simp) (by first | rfl | simp [inlT, inlV]) ?_ | refine RetNf.dataE rfl (by conv => lhs; simp) (by conv => lhs; simp) (by first | rfl | simp [inlT, inlV]) ?_)
    all_goals (first | rfl | (simp; done) | (simp_all; done) | (simp_all; omega))
  · have hlt : k < l.length := by omega
    obtain ⟨t, hr⟩ := get_lt hlt
    have hm : (l.map iC)[k]? = some [.int .i64 t] := by rw [List.getElem?_map, hr]; rfl
    have q1 : (k : Int) < l.length := by omega
    have q2 : ¬ l.length ≤ k := by omega
    have hw : IntKind.i64.wrap ((k : Int) + 1) = ((k + 1 : Nat) : Int) := w64 (by omega) (by omega)
    by_cases ht : t = n
    · subst ht
      rw [decide_eq_true (List.mem_of_getElem? hr)]
      repeat' (first | refine ZV ?_ | refine ZB tm no_specs ?_ | refine ZH (fun hb => ?_) (fun hb => ?_) | refine ZJ (by conv => lhs; simp [q1, q2, hm]) ?_ | refine ZA (fun hb => ?_) (fun hb => ?_))
      all_goals (first | refine Ret.dataE rfl (by conv => lhs; simp) (by conv => lhs; simp) (by first | rfl | simp [inlT, inlV]) ?_ | refine RetNf.dataE rfl (by conv => lhs; simp) (by conv => lhs; simp) (by first | rfl | simp [inlT, inlV]) ?_)
      all_goals (first | rfl | (simp; done) | (simp_all; done) | (simp_all; omega))
    · have hg2 : n ∉ l.take (k + 1) := by
        rw [List.take_add_one, hr]
        simp only [Option.toList_some, List.mem_append, List.mem_singleton, not_or]
        exact ⟨hg, fun e => ht e.symm⟩
      have ht2 : (t == n) = false := by simpa using ht
      repeat' (first | refine ZV ?_ | refine ZB tm no_specs ?_ | refine ZH (fun hb => ?_) (fun hb => ?_) | refine ZJ (by conv => lhs; simp [q1, q2, hm, hw, ht2]) ?_ | refine ZA (fun hb => ?_) (fun hb => ?_))
      exact ⟨⟨(k + 1, _), hlt, hg2⟩, by dsimp only; omega, AS.le_of rfl ⟨rfl, rfl, rfl, rfl, trivial⟩ (fun _ => rfl)⟩
noncomputable def wioS : SpecFn := mkS (fun d : Il × Int => [.list 1 (d.1.1.map iC), .int .i64 d.2]) fun d => (.list 1 ((Dir.oth d.1.1 d.2).map iC), [])
theorem wioS_eq (l : List Int) (h : l.length ≤ 9000) (n : Int) : wioS [.list 1 (l.map iC), .int .i64 n] [] = some (.list 1 ((Dir.oth l n).map iC), []) :=
  mkS_eq (enc := fun d : Il × Int => [AV.list 1 (d.1.1.map iC), .int .i64 d.2]) (res := fun d => (.list 1 ((Dir.oth d.1.1 d.2).map iC), [])) (fun x y h => by
    obtain ⟨⟨l, hl⟩, n⟩ := x
    obtain ⟨⟨l', hl'⟩, n'⟩ := y
    simp only [List.cons.injEq, AV.list.injEq, AV.int.injEq, true_and, and_true] at h
    obtain ⟨h, rfl⟩ := h
    cases iC_inj h
    rfl) (⟨l, h⟩, n)
theorem ints_nrmR (l : List Int) : nrmR Tryz.prog [82] (.list 1 (l.map iC)) = .list 1 (l.map iC) := rc_list l
def IsLr (id s e : Nat) (h : NL ABlk) (P : AV) (l : List (List AV)) : Prop := (P = .nils ∧ l = []) ∨ ∃ g, P = .sl id g 0 l.length ∧ lk h id = some { gen := g, kind := 2, elem := e, size := s, inl := true, rows := l }
theorem oth_snoc (l : List Int) (n t : Int) : Dir.oth (l ++ [t]) n = if t = n then Dir.oth l n else Dir.oth l n ++ [t] := by
  simp only [Dir.oth, List.filter_append]
  split
  · rename_i h; simp [h]
  · rename_i h; simp [h]
theorem rwio_ok : FnC Tryz.prog 82 wioS := by
  refine FnC.walkN 82 (fn := Tryz.f82) [82] Tryz.func82 rfl (by kernel_rfl) (fun d => ?_) (fun d => ⟨_, ints_nrmR _⟩)
  obtain ⟨⟨l, hl⟩, n⟩ := d
  change W _ (RetNf _ _ _ (.list 1 ((Dir.oth l n).map iC)) []) _ _ ⟨23, [(0, .list 1 (l.map iC)), (1, .int .i64 n)], []⟩
  have cap : l.length ≤ 9223372036854775807 := by omega
  repeat' (first | refine ZV ?_ | refine ZB tm no_specs ?_ | refine ZH (fun hb => ?_) (fun hb => ?_) | refine ZJ (by conv => lhs; simp [cap]) ?_ | refine ZA (fun hb => ?_) (fun hb => ?_))
  refine W.loop rfl (ι := { q : Nat × AV × NL ABlk // q.1 ≤ l.length ∧ IsLr 336 1 3 q.2.2 q.2.1 ((Dir.oth (l.take q.1) n).map iC) })
    (fun q => ⟨23, [(1, .int .i64 n), (5, q.1.2.1), (8, .list 1 (l.map iC)), (9, .int .i64 l.length), (10, .int .i64 (q.1.1 : Nat))], q.1.2.2⟩) (fun q => l.length - q.1.1)
    ⟨(0, .nils, _), by simp, .inl ⟨rfl, by simp [Dir.oth]⟩⟩ (AS.le_of rfl ⟨rfl, rfl, rfl, rfl, rfl, trivial⟩ (fun _ => rfl)) ?_
  rintro ⟨⟨k, P, h⟩, hk, hP⟩
  dsimp only at hk hP ⊢
  by_cases hk2 : k = l.length
  · subst hk2
    rw [List.take_length] at hP
    refine W.accD 5 (id := 336) (s := 1) (e := 3) (l := (Dir.oth l n).map iC) rfl hP fun H' hH => ?_
    repeat' (first | refine ZV ?_ | refine ZB tm no_specs ?_ | refine ZH (fun hb => ?_) (fun hb => ?_) | refine ZJ (by conv => lhs; simp) ?_ | refine ZA (fun hb => ?_) (fun hb => ?_))
    refine RetNf.dataE rfl (by conv => lhs; simp) (by conv => lhs; simp) (by first | rfl | simp [inlT, inlV]) ?_
    exact ints_nrmR _
  · have hlt : k < l.length := by omega
    obtain ⟨t, hr⟩ := get_lt hlt
    have hm : (l.map iC)[k]? = some [.int .i64 t] := by rw [List.getElem?_map, hr]; rfl
    have q1 : (k : Int) < l.length := by omega
    have q2 : ¬ l.length ≤ k := by omega
    have hw : IntKind.i64.wrap ((k : Int) + 1) = ((k + 1 : Nat) : Int) := w64 (by omega) (by omega)
    have ho : Dir.oth (l.take (k + 1)) n = if t = n then Dir.oth (l.take k) n else Dir.oth (l.take k) n ++ [t] := by rw [List.take_add_one, hr]; exact oth_snoc _ _ _
    have hT : (Dir.oth (l.take k) n).length ≤ 9000 := Nat.le_trans (List.length_filter_le _ _) (by rw [List.length_take]; omega)
    by_cases ht : t = n
    · have ht2 : (t != n) = false := by simpa using ht
      rw [if_pos ht] at ho
      rw [← ho] at hP
      repeat' (first | refine ZV ?_ | refine ZB tm no_specs ?_ | refine ZH (fun hb => ?_) (fun hb => ?_) | refine ZJ (by conv => lhs; simp [q1, q2, hm, hw, ht2]) ?_ | refine ZA (fun hb => ?_) (fun hb => ?_))
      exact ⟨⟨(k + 1, P, _), hlt, hP⟩, by dsimp only; omega, AS.le_of rfl ⟨rfl, rfl, rfl, rfl, rfl, trivial⟩ (fun _ => rfl)⟩
    · have ht2 : (t != n) = true := by simpa using ht
      rw [if_neg ht] at ho
      generalize Dir.oth (l.take k) n = T at *
      have y1 : T.length ≤ maxLen := by simp only [maxLen]; omega
      have y2 : (T.length + 1) * 8 ≤ 140737488355328 := by omega
      have y4 : T.length + 1 ≤ maxLen := by simp only [maxLen]; omega
      have fT : firstRows T.length (T.map iC) = T.map iC := first_all (by simp)
      rcases hP with ⟨rfl, e2⟩ | ⟨g', rfl, hb⟩
      · have e3 := List.map_eq_nil_iff.1 e2
        repeat' (first | refine ZV ?_ | refine ZB tm no_specs ?_ | refine ZH (fun hb => ?_) (fun hb => ?_) | refine ZJ (by conv => lhs; simp [q1, q2, hm, hw, ht2, m1]) ?_ | refine ZA (fun hb => ?_) (fun hb => ?_))
        exact ⟨⟨(k + 1, .sl 336 _ 0 1, _), hlt, .inr ⟨_, by simp [ho, e3]; rfl, by simp [lk_st, ho, e3, iC]⟩⟩, by dsimp only; omega, AS.le_of rfl ⟨rfl, rfl, rfl, rfl, rfl, trivial⟩ (fun _ => rfl)⟩
      · rw [List.length_map] at *
        repeat' (first | refine ZV ?_ | refine ZB tm no_specs ?_ | refine ZH (fun hb => ?_) (fun hb => ?_) | refine ZJ (by conv => lhs; simp [q1, q2, hm, hw, ht2, hb, y1, y2, y4, fT, m1]) ?_ | refine ZA (fun hb => ?_) (fun hb => ?_))
        exact ⟨⟨(k + 1, .sl 336 (g' + 1) 0 (T.length + 1), _), hlt, .inr ⟨g' + 1, by simp [ho], by simp [lk_st, ho, iC]⟩⟩, by dsimp only; omega, AS.le_of rfl ⟨rfl, rfl, rfl, rfl, rfl, trivial⟩ (fun _ => rfl)⟩
def wit (n : Int) : List Int → List Int
  | [] => [n]
  | x :: r => if x < n then x :: wit n r else if x = n then x :: r else n :: x :: r
theorem wit_len (n : Int) : ∀ l : List Int, (wit n l).length ≤ l.length + 1
  | [] => Nat.le_refl _
  | x :: r => by
    have := wit_len n r
    rw [wit]
    split
    · simp; omega
    · split <;> simp
noncomputable def witS : SpecFn := mkS (fun d : Il × Int => [.list 1 (d.1.1.map iC), .int .i64 d.2]) fun d => (.list 1 ((wit d.2 d.1.1).map iC), [])
theorem witS_eq (l : List Int) (h : l.length ≤ 9000) (n : Int) : witS [.list 1 (l.map iC), .int .i64 n] [] = some (.list 1 ((wit n l).map iC), []) :=
  mkS_eq (enc := fun d : Il × Int => [AV.list 1 (d.1.1.map iC), .int .i64 d.2]) (res := fun d => (.list 1 ((wit d.2 d.1.1).map iC), [])) (fun x y h => by
    obtain ⟨⟨l, hl⟩, n⟩ := x
    obtain ⟨⟨l', hl'⟩, n'⟩ := y
    simp only [List.cons.injEq, AV.list.injEq, AV.int.injEq, true_and, and_true] at h
    obtain ⟨h, rfl⟩ := h
    cases iC_inj h
    rfl) (⟨l, h⟩, n)
theorem rwit_ok : FnC Tryz.prog 118 witS := by
  refine FnC.walkN 118 (fn := Tryz.f118) [82] Tryz.func118 rfl (by kernel_rfl) (fun d => ?_) (fun d => ⟨_, ints_nrmR _⟩)
  obtain ⟨⟨l, hl⟩, n⟩ := d
  change W _ (RetNf _ _ _ (.list 1 ((wit n l).map iC)) []) _ _ ⟨45, [(0, .list 1 (l.map iC)), (1, .int .i64 n)], []⟩
  have cap : l.length ≤ 9223372036854775807 := by omega
  repeat' (first | refine ZV ?_ | refine ZB tm no_specs ?_ | refine ZH (fun hb => ?_) (fun hb => ?_) | refine ZJ (by conv => lhs; simp [cap]) ?_ | refine ZA (fun hb => ?_) (fun hb => ?_))
  refine W.loop rfl (ι := { q : Nat × NL ABlk // q.1 ≤ l.length ∧ wit n l = l.take q.1 ++ wit n (l.drop q.1) })
    (fun q => ⟨45, [(0, .list 1 (l.map iC)), (1, .int .i64 n), (5, .int .i64 (q.1.1 : Nat))], q.1.2⟩) (fun q => l.length - q.1.1)
    ⟨(0, _), by simp, by simp⟩ (AS.le_of rfl ⟨rfl, rfl, rfl, trivial⟩ (fun _ => rfl)) ?_
  rintro ⟨⟨k, h⟩, hk, hg⟩
  dsimp only at hk hg ⊢
  have z1 : k ≤ maxLen := by simp only [maxLen]; omega
  have z2 : (k + 1) * 8 ≤ 140737488355328 := by omega
  have z3 : k + 1 ≤ maxLen := by simp only [maxLen]; omega
  have z4 : l.length ≤ maxLen := by simp only [maxLen]; omega
  have z5 : l.length * 8 ≤ 140737488355328 := by omega
  have z6 : k * 8 ≤ 140737488355328 := by omega
  by_cases hk2 : k = l.length
  · subst hk2
    rw [List.take_length, List.drop_length, wit] at hg
    rw [hg]
    have tA : List.take l.length (l.map iC) = l.map iC := List.take_of_length_le (by simp)
    have tB : List.drop l.length (l.map iC) = [] := List.drop_of_length_le (by simp)
    have f1 : firstRows l.length (l.map iC) = l.map iC := first_all (by simp)
    have hS : l.length - l.length = 0 := by omega
    have f2 : firstRows (l.length + 1) (l.map iC ++ [[.int .i64 n]]) = l.map iC ++ [[.int .i64 n]] := first_all (by simp)
    have t2 : List.take (l.length + 1) (l.map iC ++ [[.int .i64 n]]) = l.map iC ++ [[.int .i64 n]] := List.take_of_length_le (by simp)
    repeat' (first | refine ZV ?_ | refine ZB tm no_specs ?_ | refine ZH (fun hb => ?_) (fun hb => ?_) | refine ZJ (by conv => lhs; simp [cap, z1, z2, z3, z5, tA, tB, f1, f2, m1, hS]) ?_ | refine ZA (fun hb => ?_) (fun hb => ?_))
    refine RetNf.dataE rfl (by conv => lhs; simp) (by conv => lhs; simp [frqT, frqV, frq1, frz1, AP.run, t2]) (by first | rfl | simp [inlT, inlV]) ?_
    have := ints_nrmR (l ++ [n])
    rw [List.map_append] at this ⊢
    exact this
  · have hlt : k < l.length := by omega
    obtain ⟨t, hr⟩ := get_lt hlt
    have hm : (l.map iC)[k]? = some [.int .i64 t] := by rw [List.getElem?_map, hr]; rfl
    have q1 : (k : Int) < l.length := by omega
    have q2 : ¬ l.length ≤ k := by omega
    have hw : IntKind.i64.wrap ((k : Int) + 1) = ((k + 1 : Nat) : Int) := w64 (by omega) (by omega)
    have hd : l.drop k = t :: l.drop (k + 1) := by
      obtain ⟨h1, h2⟩ := List.getElem?_eq_some_iff.1 hr
      rw [List.drop_eq_getElem_cons h1, h2]
    by_cases ht : t < n
    · have hg2 : wit n l = l.take (k + 1) ++ wit n (l.drop (k + 1)) := by
        rw [hg, hd, wit, if_pos ht, List.take_add_one, hr, List.append_assoc]
        rfl
      repeat' (first | refine ZV ?_ | refine ZB tm no_specs ?_ | refine ZH (fun hb => ?_) (fun hb => ?_) | refine ZJ (by conv => lhs; simp [q1, q2, hm, hw, ht]) ?_ | refine ZA (fun hb => ?_) (fun hb => ?_))
      exact ⟨⟨(k + 1, _), hlt, hg2⟩, by dsimp only; omega, AS.le_of rfl ⟨rfl, rfl, rfl, trivial⟩ (fun _ => rfl)⟩
    · by_cases he : t = n
      · have he2 : (t == n) = true := by simpa using he
        have hg2 : wit n l = l := by rw [hg, hd, wit, if_neg ht, if_pos he, ← hd, List.take_append_drop]
        rw [hg2]
        have t2 : List.take l.length (l.map iC) = l.map iC := List.take_of_length_le (by simp)
        repeat' (first | refine ZV ?_ | refine ZB tm no_specs ?_ | refine ZH (fun hb => ?_) (fun hb => ?_) | refine ZJ (by conv => lhs; simp [q1, q2, hm, ht, he2, z4, z5]) ?_ | refine ZA (fun hb => ?_) (fun hb => ?_))
        refine RetNf.dataE rfl (by conv => lhs; simp) (by conv => lhs; simp [frqT, frqV, frq1, frz1, AP.run, t2]) (by first | rfl | simp [inlT, inlV]) ?_
        exact ints_nrmR l
      · have he2 : (t == n) = false := by simpa using he
        have hg2 : wit n l = l.take k ++ n :: l.drop k := by rw [hg, hd, wit, if_neg ht, if_neg he]
        rw [hg2]
        obtain ⟨A, hA⟩ : ∃ A, l.take k = A := ⟨_, rfl⟩
        obtain ⟨B, hB⟩ : ∃ B, l.drop k = B := ⟨_, rfl⟩
        have hAl : A.length = k := by rw [← hA, List.length_take]; omega
        have hBl : A.length + B.length = l.length := by rw [hAl, ← hB, List.length_drop]; omega
        have tA : List.take k (l.map iC) = A.map iC := by rw [← hA, List.map_take]
        have tB : List.drop k (l.map iC) = B.map iC := by rw [← hB, List.map_drop]
        rw [hA, hB]
        subst hAl
        clear hg hg2 hd hA hB
        have f1 : firstRows A.length (A.map iC) = A.map iC := first_all (by simp)
        have f2 : firstRows (A.length + 1) (A.map iC ++ [[.int .i64 n]]) = A.map iC ++ [[.int .i64 n]] := first_all (by simp)
        have y1 : (A.length + 1 + B.length) * 8 ≤ 140737488355328 := by omega
        have y2 : A.length + 1 + B.length ≤ maxLen := by simp only [maxLen]; omega
        have tL : List.take l.length (l.map iC) = l.map iC := List.take_of_length_le (by simp)
        have hS : l.length - A.length = B.length := by omega
        have t2 : List.take (A.length + 1 + B.length) (A.map iC ++ [.int .i64 n] :: B.map iC) = A.map iC ++ [.int .i64 n] :: B.map iC := List.take_of_length_le (by simp; omega)
        repeat' (first | refine ZV ?_ | refine ZB tm no_specs ?_ | refine ZH (fun hb => ?_) (fun hb => ?_) | refine ZJ (by conv => lhs; simp [q1, q2, hk, hm, ht, he2, z1, z2, z3, z4, z5, z6, tA, tB, f1, f2, y1, y2, m1, tL, hS]) ?_ | refine ZA (fun hb => ?_) (fun hb => ?_))
        refine RetNf.dataE rfl (by conv => lhs; simp) (by conv => lhs; simp [frqT, frqV, frq1, frz1, AP.run, t2, show A.length + 1 + B.length ≤ A.length + (B.length + 1) by omega]) (by first | rfl | simp [inlT, inlV]) ?_
        have := ints_nrmR (A ++ n :: B)
        rw [List.map_append, List.map_cons] at this ⊢
        exact this
end Go.Abs.Nz
namespace Go.Abs.Nz
open Go Go.Proofs Go.Abs
set_option maxRecDepth 100000
set_option maxHeartbeats 4000000
set_option linter.unusedSimpArgs false
set_option linter.unusedVariables false
attribute [local simp] instA slice3A slice3C
attribute [-simp] mkv
attribute [local simp] mkv_hd hdA_cons hdA_ob hdA_ob'
noncomputable def hdBad (e : En) (b1 b2 b3 : Bool) : Bool := e.id == 0 || (decide (e.owner < -1) || (decide (127 < e.owner) || (!b1 || (!b2 || ((decide (0 ≤ e.owner) && (decide (0 < e.readers.length) || !b3)) || ((!b3 && oid e.obj != e.id) || ((e.waiting.length : Int) == 0 && decide (0 < e.queue.length))))))))
theorem fine_hd (e : En) : fineB e = (!hdBad e (ascN e.readers) (ascN e.waiting) (zO? e.obj) && (!e.waiting.any (strg e) && !e.queue.any oddA)) := by
  unfold fineB hdBad
  generalize e.waiting.any (strg e) = b5
  generalize e.queue.any oddA = b6
  generalize ascN e.readers = b1
  generalize ascN e.waiting = b2
  generalize zO? e.obj = b3
  generalize e.readers.length = n1
  generalize e.waiting.length = n2
  generalize e.queue.length = n3
  by_cases h0 : e.id = 0
  · simp [h0]
  by_cases h1 : e.owner < -1
  · have h1' : ¬ -1 ≤ e.owner := by omega
    simp [h1, h1']
  by_cases h2 : 127 < e.owner
  · have h2' : ¬ e.owner ≤ 127 := by omega
    simp [h2, h2']
  have h1' : -1 ≤ e.owner := by omega
  have h2' : e.owner ≤ 127 := by omega
  have h3 : (e.owner == -1) = !decide (0 ≤ e.owner) := by
    by_cases h : 0 ≤ e.owner
    · have : e.owner ≠ -1 := by omega
      simp [h, this]
    · have : e.owner = -1 := by omega
      simp [this]
  have h4 : ((n1 : Int) == 0) = !decide (0 < n1) := by
    cases n1 <;> simp
    omega
  have h5 : decide ((0 : Int) < n2) = !((n2 : Int) == 0) := by
    cases n2 <;> simp
    omega
  have h6 : ((n3 : Int) == 0) = !decide (0 < n3) := by
    cases n3 <;> simp
    omega
  rw [h3, h4, h5, h6]
  simp only [h0, h1, h2, h1', h2', bne, decide_true, decide_false, beq_eq_false_iff_ne.2 h0]
  generalize decide (0 ≤ e.owner) = x1
  generalize decide (0 < n1) = x2
  generalize ((n2 : Int) == 0) = x3
  generalize decide (0 < n3) = x4
  generalize (oid e.obj == e.id) = x5
  cases x1 <;> cases x2 <;> cases x3 <;> cases x4 <;> cases x5 <;> cases b1 <;> cases b2 <;> cases b3 <;> cases b5 <;> cases b6 <;> rfl
noncomputable def rent_specs : NL Spec := [(129, ⟨1, ilS ascN⟩), (81, ⟨1, zeS⟩), (69, ⟨1, hasS⟩), (68, ⟨1, boS okN⟩)]
theorem rent_specs_ok : ∀ p ∈ rent_specs, FnC Tryz.prog p.1 p.2.fn := by
  simp only [rent_specs, List.mem_cons, List.not_mem_nil, or_false]
  rintro p (rfl | rfl | rfl | rfl)
  · exact rnodes_ok
  · exact rzero_ok
  · exact rhas_ok
  · exact rnode_ok
attribute [local simp] rent_specs
theorem rent_ok : FnC Tryz.prog 84 (enS fineB) := by
  refine FnC.walk 84 (fn := Tryz.f84) Tryz.func84 rfl (by kernel_rfl) fun d => ?_
  obtain ⟨e, he⟩ := d
  have c1 := ilS_eq ascN e.readers he.1
  have c2 := ilS_eq ascN e.waiting he.2.1
  have c3 := zeS_eq e.obj
  have cap1 : e.readers.length ≤ 9223372036854775807 := by have := he.1; omega
  have cap2 : e.waiting.length ≤ 9223372036854775807 := by have := he.2.1; omega
  have cap3 : e.queue.length ≤ 9223372036854775807 := by have := he.2.2; omega
  have hf := fine_hd e
  dsimp only
  generalize fineB e = F at *
  generalize ascN e.readers = b1 at *
  generalize ascN e.waiting = b2 at *
  generalize zO? e.obj = b3 at *
  have hbad : hdBad e b1 b2 b3 = true → F = false := fun h => by rw [hf, h]; rfl
  have hgood : hdBad e b1 b2 b3 = false → F = (!e.waiting.any (strg e) && !e.queue.any oddA) := fun h => by rw [hf, h]; rfl
  clear hf
  change W _ (Ret _ _ (.bool F) []) _ _ ⟨116, [(0, .agg (.int .u64 e.id :: .int .i64 e.owner :: .list 1 (e.readers.map iC) :: (e.obj.cells ++ [.list 1 (e.waiting.map iC), .list 2 (e.queue.map askC)])))], []⟩
  repeat' (first | refine ZV ?_ | refine ZB (id := 0) tm rent_specs_ok ?_ | refine ZH (fun hb => ?_) (fun hb => ?_) | refine ZJ (by conv => lhs; simp) ?_ | refine ZA (fun hb => ?_) (fun hb => ?_))
  refine W.cutT (fun σ' => hdBad e b1 b2 b3 = false ∧ ∃ H, lk H 32 = some { gen := 1, kind := 2, elem := 85, size := 41, inl := false, rows := [enC e] } ∧ AS.le ⟨116, [(1, .ptr 32 1 0 0)], H⟩ σ') ?_ ?_
  · repeat' (first | refine ZV ?_ | refine ZB tm rent_specs_ok ?_ | refine ZH (fun hb => ?_) (fun hb => ?_) | refine ZJ (by conv => lhs; simp [c1, c2, c3, cap1, cap2, cap3]) ?_ | refine ZA (fun hb => ?_) (fun hb => ?_))
    all_goals first
      | (have hF : F = false := hbad (by clear hbad hgood; first | (simp [hdBad, *]; done) | (simp_all [hdBad]; done))
         subst hF
         exact Ret.dataR rfl (by conv => lhs; simp) (by conv => lhs; simp) rfl)
      | exact ⟨by simp [hdBad, *], _, by simp [lk_st, enC], AS.le_of rfl ⟨rfl, trivial⟩ (fun _ => rfl)⟩
  · rintro σ' ⟨hh, H, g1, hle⟩
    refine W.weak hle ?_
    clear hle
    have hF := hgood hh
    clear hh hgood hbad c1 c2 c3
    simp only [enC] at g1
    repeat' (first | refine ZV ?_ | refine ZB tm rent_specs_ok ?_ | refine ZH (fun hb => ?_) (fun hb => ?_) | refine ZJ (by conv => lhs; simp [g1, cap2]) ?_ | refine ZA (fun hb => ?_) (fun hb => ?_))
    refine W.loop rfl (ι := { q : Nat × NL ABlk // q.1 ≤ e.waiting.length ∧ (∀ n ∈ e.waiting.take q.1, strg e n = false) ∧ lk q.2 32 = some { gen := 1, kind := 2, elem := 85, size := 41, inl := false, rows := [enC e] } })
      (fun q => ⟨116, [(1, .ptr 32 1 0 0), (76, .list 1 (e.waiting.map iC)), (77, .int .i64 e.waiting.length), (78, .int .i64 (q.1.1 : Nat))], q.1.2⟩) (fun q => e.waiting.length - q.1.1)
      ⟨(0, _), by simp, by simp, by simp [g1]⟩ (AS.le_of rfl ⟨rfl, rfl, rfl, rfl, trivial⟩ (fun _ => rfl)) ?_
    clear g1 H
    rintro ⟨⟨k, H⟩, hk, hg, g1⟩
    dsimp only at hk hg g1 ⊢
    simp only [enC] at g1
    by_cases hk2 : k = e.waiting.length
    · subst hk2
      rw [List.take_length] at hg
      have h5 : e.waiting.any (strg e) = false := by rw [List.any_eq_false]; exact fun n hn => by simp [hg n hn]
      rw [h5] at hF
      clear hg
      repeat' (first | refine ZV ?_ | refine ZB tm rent_specs_ok ?_ | refine ZH (fun hb => ?_) (fun hb => ?_) | refine ZJ (by conv => lhs; simp [g1, cap3]) ?_ | refine ZA (fun hb => ?_) (fun hb => ?_))
      refine W.loop rfl (ι := { q : Nat × NL ABlk // q.1 ≤ e.queue.length ∧ (∀ n ∈ e.queue.take q.1, oddA n = false) })
        (fun q => ⟨116, [(95, .list 2 (e.queue.map askC)), (96, .int .i64 e.queue.length), (97, .int .i64 (q.1.1 : Nat))], q.1.2⟩) (fun q => e.queue.length - q.1.1)
        ⟨(0, _), by simp, by simp⟩ (AS.le_of rfl ⟨rfl, rfl, rfl, trivial⟩ (fun _ => rfl)) ?_
      clear g1 H
      rintro ⟨⟨k, H⟩, hk, hg⟩
      dsimp only at hk hg ⊢
      by_cases hk2 : k = e.queue.length
      · subst hk2
        rw [List.take_length] at hg
        have h6 : e.queue.any oddA = false := by rw [List.any_eq_false]; exact fun n hn => by simp [hg n hn]
        rw [h6] at hF
        subst hF
        repeat' (first | refine ZV ?_ | refine ZB tm rent_specs_ok ?_ | refine ZH (fun hb => ?_) (fun hb => ?_) | refine ZJ (by conv => lhs; simp) ?_ | refine ZA (fun hb => ?_) (fun hb => ?_))
        all_goals (first | refine Ret.dataE rfl (by conv => lhs; simp) (by conv => lhs; simp) (by first | rfl | simp [inlT, inlV]) ?_ | refine RetNf.dataE rfl (by conv => lhs; simp) (by conv => lhs; simp) (by first | rfl | simp [inlT, inlV]) ?_)
        all_goals (first | rfl | (simp; done) | (simp_all; done) | (simp_all; omega))
      · have hlt : k < e.queue.length := by omega
        obtain ⟨⟨a, m⟩, hr⟩ := get_lt hlt
        have hm : (e.queue.map askC)[k]? = some [.int .i64 a, .int .i64 m] := by rw [List.getElem?_map, hr]; rfl
        have q1 : (k : Int) < e.queue.length := by omega
        have q2 : ¬ e.queue.length ≤ k := by omega
        have hw : IntKind.i64.wrap ((k : Int) + 1) = ((k + 1 : Nat) : Int) := w64 (by omega) (by omega)
        have cn := boS_eq okN a
        have hbad : oddA (a, m) = true → F = false := fun h => by
          have : e.queue.any oddA = true := List.any_eq_true.2 ⟨_, List.mem_of_getElem? hr, h⟩
          rw [hF, this]
          rfl
        have hgn : oddA (a, m) = false → ∀ n ∈ e.queue.take (k + 1), oddA n = false := fun h n hn => by
          rw [List.take_add_one, hr] at hn
          simp only [Option.toList_some, List.mem_append, List.mem_singleton] at hn
          rcases hn with hn | rfl
          · exact hg n hn
          · exact h
        unfold oddA at hbad
        simp only [oddA, okM] at hgn hbad
        generalize okN a = b at *
        clear hF hg
        repeat' (first | refine ZV ?_ | refine ZB tm rent_specs_ok ?_ | refine ZH (fun hb => ?_) (fun hb => ?_) | refine ZJ (by conv => lhs; simp [q1, q2, hm, cn, hw]) ?_ | refine ZA (fun hb => ?_) (fun hb => ?_))
        all_goals first
          | (have hF : F = false := hbad (by clear hbad hgn; first | (simp [*]; done) | (simp_all; done))
             subst hF
             exact Ret.dataR rfl (by conv => lhs; simp) (by conv => lhs; simp) rfl)
          | exact ⟨⟨(k + 1, _), hlt, hgn (by simp_all)⟩, by dsimp only; omega, AS.le_of rfl ⟨rfl, rfl, rfl, trivial⟩ (fun _ => rfl)⟩
    · have hlt : k < e.waiting.length := by omega
      obtain ⟨n, hr⟩ := get_lt hlt
      have hm : (e.waiting.map iC)[k]? = some [.int .i64 n] := by rw [List.getElem?_map, hr]; rfl
      have q1 : (k : Int) < e.waiting.length := by omega
      have q2 : ¬ e.waiting.length ≤ k := by omega
      have hw : IntKind.i64.wrap ((k : Int) + 1) = ((k + 1 : Nat) : Int) := w64 (by omega) (by omega)
      have cn := hasS_eq e.readers he.1 n
      have hbad : strg e n = true → F = false := fun h => by
        have : e.waiting.any (strg e) = true := List.any_eq_true.2 ⟨_, List.mem_of_getElem? hr, h⟩
        rw [hF, this]
        rfl
      have hgn : strg e n = false → ∀ n ∈ e.waiting.take (k + 1), strg e n = false := fun h n hn => by
        rw [List.take_add_one, hr] at hn
        simp only [Option.toList_some, List.mem_append, List.mem_singleton] at hn
        rcases hn with hn | rfl
        · exact hg n hn
        · exact h
      have hst : strg e n = (n != e.owner && !decide (n ∈ e.readers)) := rfl
      rw [hst] at hbad hgn
      generalize hb1 : decide (n ∈ e.readers) = b at *
      generalize hb2 : (n != e.owner) = b2 at *
      clear hF hg hst
      repeat' (first | refine ZV ?_ | refine ZB tm rent_specs_ok ?_ | refine ZH (fun hb => ?_) (fun hb => ?_) | refine ZJ (by conv => lhs; simp [q1, q2, hm, cn, hw, g1, hb2]) ?_ | refine ZA (fun hb => ?_) (fun hb => ?_))
      all_goals first
        | (have hF : F = false := hbad (by clear hbad hgn; first | (simp [*]; done) | (simp_all; done))
           subst hF
           exact Ret.dataR rfl (by conv => lhs; simp) (by conv => lhs; simp) rfl)
        | exact ⟨⟨(k + 1, _), hlt, hgn (by simp_all), by simp [lk_st, g1, enC]⟩, by dsimp only; omega, AS.le_of rfl ⟨rfl, rfl, rfl, rfl, trivial⟩ (fun _ => rfl)⟩
end Go.Abs.Nz
namespace Go.Abs.Nz
open Go Go.Proofs Go.Abs
set_option maxRecDepth 100000
set_option maxHeartbeats 4000000
set_option linter.unusedSimpArgs false
set_option linter.unusedVariables false
attribute [local simp] instA slice3A slice3C
attribute [-simp] mkv
attribute [local simp] mkv_hd hdA_cons hdA_ob hdA_ob'
noncomputable def rvd_specs : NL Spec := [(84, ⟨1, enS fineB⟩), (68, ⟨1, boS okN⟩)]
theorem rvd_specs_ok : ∀ p ∈ rvd_specs, FnC Tryz.prog p.1 p.2.fn := by
  simp only [rvd_specs, List.mem_cons, List.not_mem_nil, or_false]
  rintro p (rfl | rfl)
  · exact rent_ok
  · exact rnode_ok
attribute [local simp] rvd_specs
theorem rvd_ok : FnC Tryz.prog 40 vdS := by
  refine FnC.walk 40 (fn := Tryz.f40) Tryz.func40 rfl (by kernel_rfl) fun d => ?_
  obtain ⟨nd, l, hl, he⟩ := d
  have cn := boS_eq okN nd
  change W _ (Ret _ _ (.bool (validD nd l)) []) _ _ ⟨36, [(0, .agg [.int .i64 nd, .list 41 (l.map enC)])], []⟩
  have cap : l.length ≤ 9223372036854775807 := by omega
  repeat' (first | refine ZV ?_ | refine ZB tm rvd_specs_ok ?_ | refine ZH (fun hb => ?_) (fun hb => ?_) | refine ZJ (by conv => lhs; simp [cap]) ?_ | refine ZA (fun hb => ?_) (fun hb => ?_))
  refine W.loop rfl (ι := { q : Nat × NL ABlk // q.1 ≤ l.length ∧ (∀ j, j < q.1 → goodD l j = true) ∧ lk q.2 32 = some { gen := 1, kind := 2, elem := 71, size := 2, inl := false, rows := [[.int .i64 nd, .list 41 (l.map enC)]] } })
    (fun q => ⟨36, [(1, .ptr 32 1 0 0), (6, .list 41 (l.map enC)), (7, .int .i64 l.length), (8, .int .i64 (q.1.1 : Nat))], q.1.2⟩) (fun q => l.length - q.1.1)
    ⟨(0, _), by simp, fun j hj => absurd hj (by simp), rfl⟩ (AS.le_of rfl ⟨rfl, rfl, rfl, rfl, trivial⟩ (fun _ => rfl)) ?_
  rintro ⟨⟨k, h⟩, hk, hg, h1⟩
  dsimp only at hk hg h1 ⊢
  by_cases hk2 : k = l.length
  · subst hk2
    rw [validD_yes hg]
    repeat' (first | refine ZV ?_ | refine ZB tm rvd_specs_ok ?_ | refine ZH (fun hb => ?_) (fun hb => ?_) | refine ZJ (by conv => lhs; simp [h1, cn]) ?_ | refine ZA (fun hb => ?_) (fun hb => ?_))
    all_goals (first | refine Ret.dataE rfl (by conv => lhs; simp) (by conv => lhs; simp) (by first | rfl | simp [inlT, inlV]) ?_ | refine RetNf.dataE rfl (by conv => lhs; simp) (by conv => lhs; simp) (by first | rfl | simp [inlT, inlV]) ?_)
    all_goals (first | rfl | (simp; done) | (simp_all; done) | (simp_all; omega))
  · have hlt : k < l.length := by omega
    obtain ⟨t, hr⟩ := get_lt hlt
    have hm : (l.map enC)[k]? = some (enC t) := by rw [List.getElem?_map, hr]; rfl
    have q1 : (k : Int) < l.length := by omega
    have q2 : ¬ l.length ≤ k := by omega
    have hw : IntKind.i64.wrap ((k : Int) + 1) = ((k + 1 : Nat) : Int) := w64 (by omega) (by omega)
    have cf := enS_eq fineB t (he t (List.mem_of_getElem? hr))
    simp only [enC] at cf hm
    cases hf : fineB t with
    | false =>
      rw [hf] at cf
      rw [validD_no hlt (by simp [goodD, hr, hf])]
      repeat' (first | refine ZV ?_ | refine ZB tm rvd_specs_ok ?_ | refine ZH (fun hb => ?_) (fun hb => ?_) | refine ZJ (by conv => lhs; simp [q1, q2, hm, h1, cf]) ?_ | refine ZA (fun hb => ?_) (fun hb => ?_))
      all_goals (first | refine Ret.dataE rfl (by conv => lhs; simp) (by conv => lhs; simp) (by first | rfl | simp [inlT, inlV]) ?_ | refine RetNf.dataE rfl (by conv => lhs; simp) (by conv => lhs; simp) (by first | rfl | simp [inlT, inlV]) ?_)
      all_goals (first | rfl | (simp; done) | (simp_all; done) | (simp_all; omega))
    | true =>
      rw [hf] at cf
      by_cases hz : k = 0
      · have hgk : goodD l k = true := by subst hz; simp [goodD, hr, hf]
        have hgn : ∀ j, j < k + 1 → goodD l j = true := fun j hj => by
          have h0 : j = k := by omega
          subst h0
          exact hgk
        have q5 : ¬ (0 : Int) < (k : Int) := by omega
        have q6 : ¬ 0 < k := by omega
        clear hz
        repeat' (first | refine ZV ?_ | refine ZB tm rvd_specs_ok ?_ | refine ZH (fun hb => ?_) (fun hb => ?_) | refine ZJ (by conv => lhs; simp [q1, q2, q5, q6, hm, h1, cf, hw]) ?_ | refine ZA (fun hb => ?_) (fun hb => ?_))
        exact ⟨⟨(k + 1, _), hlt, hgn, by simp [lk_st, h1]⟩, by dsimp only; omega, AS.le_of rfl ⟨rfl, rfl, rfl, rfl, trivial⟩ (fun _ => rfl)⟩
      · obtain ⟨j, hj⟩ : ∃ j, k = j + 1 := ⟨k - 1, by omega⟩
        obtain ⟨s, hs⟩ := get_lt (l := l) (i := j) (by omega)
        have hms : (l.map enC)[j]? = some (enC s) := by rw [List.getElem?_map, hs]; rfl
        simp only [enC] at hms
        have q3 : ¬ l.length ≤ j := by omega
        have q4 : (0 : Int) < (k : Int) := by omega
        have q4' : 0 < k := by omega
        have hd : IntKind.i64.wrap ((k : Int) - 1) = (j : Int) := by rw [w64 (by omega) (by omega)]; omega
        have q1' : (j : Int) < l.length := by omega
        by_cases hc : s.id < t.id
        · have hgk : goodD l k = true := by subst hj; simp [goodD, hr, hf, hs, hc]
          have hc2 : ¬ t.id ≤ s.id := by omega
          have hgn : ∀ i, i < k + 1 → goodD l i = true := fun i hi => by
            by_cases e : i = k
            · subst e
              exact hgk
            · exact hg i (by omega)
          repeat' (first | refine ZV ?_ | refine ZB tm rvd_specs_ok ?_ | refine ZH (fun hb => ?_) (fun hb => ?_) | refine ZJ (by conv => lhs; simp [q1, q1', q2, q3, q4, q4', hm, hms, h1, cf, hw, hd, hc2]) ?_ | refine ZA (fun hb => ?_) (fun hb => ?_))
          exact ⟨⟨(k + 1, _), hlt, hgn, by simp [lk_st, h1]⟩, by dsimp only; omega, AS.le_of rfl ⟨rfl, rfl, rfl, rfl, trivial⟩ (fun _ => rfl)⟩
        · rw [validD_no hlt (by subst hj; simp [goodD, hr, hf, hs, hc])]
          have hc2 : t.id ≤ s.id := by omega
          repeat' (first | refine ZV ?_ | refine ZB tm rvd_specs_ok ?_ | refine ZH (fun hb => ?_) (fun hb => ?_) | refine ZJ (by conv => lhs; simp [q1, q1', q2, q3, q4, q4', hm, hms, h1, cf, hw, hd, hc2]) ?_ | refine ZA (fun hb => ?_) (fun hb => ?_))
          all_goals (first | refine Ret.dataE rfl (by conv => lhs; simp) (by conv => lhs; simp) (by first | rfl | simp [inlT, inlV]) ?_ | refine RetNf.dataE rfl (by conv => lhs; simp) (by conv => lhs; simp) (by first | rfl | simp [inlT, inlV]) ?_)
          all_goals (first | rfl | (simp; done) | (simp_all; done) | (simp_all; omega))
noncomputable def rfnS : SpecFn := mkS (fun d : Drs × Int => [d.1.v, .int .u64 d.2]) fun d => (.agg (enC (fndD d.2 d.1.ents)), [])
theorem rfnS_eq (d : Drs) (id : Int) : rfnS [d.v, .int .u64 id] [] = some (.agg (enC (fndD id d.ents)), []) :=
  mkS_eq (enc := fun d : Drs × Int => [d.1.v, AV.int .u64 d.2]) (res := fun d => (.agg (enC (fndD d.2 d.1.ents)), [])) (fun x y h => by
    obtain ⟨a, b⟩ := x
    obtain ⟨a', b'⟩ := y
    simp only [List.cons.injEq, AV.int.injEq, true_and, and_true] at h
    cases Drs.v_inj h.1
    cases h.2
    rfl) (d, id)
theorem enC_nrmR (e : En) : nrmR Tryz.prog [85] (.agg (enC e)) = .agg (enC e) := by
  simp only [nrmR, nrmV]
  rw [enC_nrm]
theorem cAsk : Tryz.prog.cellsOf 119 = 2 := by kernel_rfl
theorem enC_nrm0 (id ow : Int) : nrmR Tryz.prog [85] (.agg (.int .u64 id :: .int .i64 ow :: .nils :: (zO ++ [.nils, .nils]))) = .agg (enC ⟨id, ow, [], zOb, [], []⟩) := by
  simp only [nrmR, nrmV, enC, enLeafs, nrmL, uI]
  rw [nrmL_append _ _ _ _ (by rw [obLeafs]; rfl), zN_eq]
  simp [nrmL, nrmV, zOb, uI, uA, cI, cE, cAsk]
noncomputable def rfn_specs : NL Spec := [(76, ⟨1, spS⟩), (68, ⟨1, boS okN⟩)]
theorem rfn_specs_ok : ∀ p ∈ rfn_specs, FnC Tryz.prog p.1 p.2.fn := by
  simp only [rfn_specs, List.mem_cons, List.not_mem_nil, or_false]
  rintro p (rfl | rfl)
  · exact sp_ref
  · exact rnode_ok
attribute [local simp] rfn_specs
theorem find_take {l : List En} {id : Int} : ∀ {k : Nat} {e : En}, l[k]? = some e → (∀ x ∈ l.take k, (x.id == id) = false) → (e.id == id) = true → l.find? (fun e => e.id == id) = some e := by
  induction l with
  | nil => intro k e h; simp at h
  | cons x r ih =>
    intro k e h h1 h2
    cases k with
    | zero =>
      simp only [List.getElem?_cons_zero, Option.some.injEq] at h
      subst h
      simp [List.find?_cons, h2]
    | succ k =>
      simp only [List.getElem?_cons_succ] at h
      have := h1 x (by simp)
      rw [List.find?_cons, this]
      exact ih h (fun y hy => h1 y (by simp [hy])) h2
def zE : List AV := .int .u64 0 :: .int .i64 0 :: .nils :: (zO ++ [.nils, .nils])
theorem rfn_ok : FnC Tryz.prog 36 rfnS := by
  refine FnC.walkN 36 (fn := Tryz.f36) [85] Tryz.func36 rfl (by kernel_rfl) (fun d => ?_) (fun d => ⟨_, enC_nrmR _⟩)
  obtain ⟨⟨nd, l, hl, he⟩, id⟩ := d
  change W _ (RetNf _ _ _ (.agg (enC (fndD id l))) []) _ _ ⟨37, [(0, .agg [.int .i64 nd, .list 41 (l.map enC)]), (1, .int .u64 id)], []⟩
  have cap : l.length ≤ 9223372036854775807 := by omega
  repeat' (first | refine ZV ?_ | refine ZB tm rfn_specs_ok ?_ | refine ZH (fun hb => ?_) (fun hb => ?_) | refine ZJ (by conv => lhs; simp [cap]) ?_ | refine ZA (fun hb => ?_) (fun hb => ?_))
  refine W.loop rfl (ι := { q : Nat × NL ABlk // q.1 ≤ l.length ∧ (∀ x ∈ l.take q.1, (x.id == id) = false) ∧ lk q.2 80 = some { gen := 1, kind := 2, elem := 85, size := 41, inl := false, rows := [zE] } })
    (fun q => ⟨37, [(1, .int .u64 id), (4, .ptr 80 1 0 0), (12, .list 41 (l.map enC)), (13, .int .i64 l.length), (14, .int .i64 (q.1.1 : Nat))], q.1.2⟩) (fun q => l.length - q.1.1)
    ⟨(0, _), by simp, by simp, by first | rfl | simp [lk_st, zE, zO]⟩ (AS.le_of rfl ⟨rfl, rfl, rfl, rfl, rfl, trivial⟩ (fun _ => rfl)) ?_
  rintro ⟨⟨k, h⟩, hk, hg, h1⟩
  dsimp only at hk hg h1 ⊢
  simp only [zE, zO, List.cons_append, List.nil_append] at h1
  by_cases hk2 : k = l.length
  · subst hk2
    rw [List.take_length] at hg
    have hf : fndD id l = ent0 id := by
      unfold fndD
      rw [List.find?_eq_none.2 (fun x hx => by simp [hg x hx])]
      rfl
    rw [hf]
    unfold ent0
    have c2 := spS_eq id
    have c3 := boS_eq okN (sp0 id)
    obtain ⟨w, hw⟩ : ∃ w, ow0 id = w := ⟨_, rfl⟩
    rw [hw]
    unfold ow0 at hw
    generalize sp0 id = s0 at *
    generalize sp1 id = s1 at *
    generalize sp2 id = s2 at *
    cases ho : okN s0 with
    | true =>
      rw [ho] at c3
      rw [if_pos ho] at hw
      subst hw
      repeat' (first | refine ZV ?_ | refine ZB tm rfn_specs_ok ?_ | refine ZH (fun hb => ?_) (fun hb => ?_) | refine ZJ (by conv => lhs; simp [h1, c2, c3]) ?_ | refine ZA (fun hb => ?_) (fun hb => ?_))
      refine RetNf.dataE rfl (by conv => lhs; simp) (by conv => lhs; simp) (by first | rfl | simp [inlT, inlV]) ?_
      exact enC_nrm0 id s0
    | false =>
      rw [ho] at c3
      rw [if_neg (by simp [ho])] at hw
      subst hw
      repeat' (first | refine ZV ?_ | refine ZB tm rfn_specs_ok ?_ | refine ZH (fun hb => ?_) (fun hb => ?_) | refine ZJ (by conv => lhs; simp [h1, c2, c3]) ?_ | refine ZA (fun hb => ?_) (fun hb => ?_))
      refine RetNf.dataE rfl (by conv => lhs; simp) (by conv => lhs; simp) (by first | rfl | simp [inlT, inlV]) ?_
      exact enC_nrm0 id (-1)
  · have hlt : k < l.length := by omega
    obtain ⟨e, hr⟩ := get_lt hlt
    have hm : (l.map enC)[k]? = some (enC e) := by rw [List.getElem?_map, hr]; rfl
    have q1 : (k : Int) < l.length := by omega
    have q2 : ¬ l.length ≤ k := by omega
    have hw : IntKind.i64.wrap ((k : Int) + 1) = ((k + 1 : Nat) : Int) := w64 (by omega) (by omega)
    simp only [enC] at hm
    cases hi : (e.id == id) with
    | true =>
      have hf : fndD id l = e := by
        unfold fndD
        rw [find_take hr hg hi]
        rfl
      rw [hf]
      repeat' (first | refine ZV ?_ | refine ZB tm rfn_specs_ok ?_ | refine ZH (fun hb => ?_) (fun hb => ?_) | refine ZJ (by conv => lhs; simp [q1, q2, hm, hi, h1]) ?_ | refine ZA (fun hb => ?_) (fun hb => ?_))
      refine RetNf.dataE rfl (by conv => lhs; simp) (by conv => lhs; simp) (by first | rfl | simp [inlT, inlV]) ?_
      exact enC_nrmR e
    | false =>
      have hg2 : ∀ x ∈ l.take (k + 1), (x.id == id) = false := fun x hx => by
        rw [List.take_add_one, hr] at hx
        simp only [Option.toList_some, List.mem_append, List.mem_singleton] at hx
        rcases hx with hx | rfl
        · exact hg x hx
        · exact hi
      repeat' (first | refine ZV ?_ | refine ZB tm rfn_specs_ok ?_ | refine ZH (fun hb => ?_) (fun hb => ?_) | refine ZJ (by conv => lhs; simp [q1, q2, hm, hi, hw]) ?_ | refine ZA (fun hb => ?_) (fun hb => ?_))
      exact ⟨⟨(k + 1, _), hlt, hg2, by simp [lk_st, h1, zE, zO]⟩, by dsimp only; omega, AS.le_of rfl ⟨rfl, rfl, rfl, rfl, rfl, trivial⟩ (fun _ => rfl)⟩
end Go.Abs.Nz
namespace Go.Abs.Nz
open Go Go.Proofs Go.Abs
set_option maxRecDepth 100000
set_option maxHeartbeats 4000000
set_option linter.unusedSimpArgs false
set_option linter.unusedVariables false
def AscE (l : List En) : Prop := l.Pairwise (fun a b => a.id < b.id)
theorem validD_ascE {nd : Int} {l : List En} (h : validD nd l = true) : AscE l := by
  have adj : ∀ k (hk : k + 1 < l.length), (l[k]'(by omega)).id < l[k + 1].id := fun k hk => by
    unfold validD at h
    rw [Bool.and_eq_true, List.all_eq_true] at h
    have := h.1 (k + 1) (List.mem_range.2 hk)
    unfold goodD at this
    rw [List.getElem?_eq_getElem hk] at this
    simp only [List.getElem?_eq_getElem (show k < l.length by omega), Bool.and_eq_true, decide_eq_true_eq] at this
    exact this.2
  rw [AscE, List.pairwise_iff_getElem]
  intro i j hi hj hij
  induction j with
  | zero => omega
  | succ j ih =>
    by_cases e : i = j
    · subst e; exact adj i hj
    · have := ih (by omega) (by omega)
      have := adj j hj
      omega
theorem validD_node {nd : Int} {l : List En} (h : validD nd l = true) : okN nd = true := by
  unfold validD at h
  rw [Bool.and_eq_true] at h
  exact h.2
theorem validD_of {nd : Int} {l : List En} (h1 : AscE l) (h2 : ∀ e ∈ l, fineB e = true) (h3 : okN nd = true) : validD nd l = true := by
  rw [validD_yes, h3]
  intro k hk
  unfold goodD
  rw [List.getElem?_eq_getElem hk]
  simp only [h2 _ (List.getElem_mem hk), Bool.true_and]
  cases k with
  | zero => rfl
  | succ i =>
    simp only [List.getElem?_eq_getElem (show i < l.length by omega), decide_eq_true_eq]
    exact List.pairwise_iff_getElem.1 h1 i (i + 1) (by omega) hk (by omega)
theorem bsF_spc {c : Nat → Bool} (mono : ∀ j k, j ≤ k → c k = true → c j = true) : ∀ (d lo hi : Nat), hi - lo = d → lo ≤ hi → ∀ k, lo ≤ k → k < hi → (c k = true ↔ k < bsF c lo hi) := by
  intro d
  induction d using Nat.strongRecOn with
  | ind d ih =>
    intro lo hi hd hl k hk1 hk2
    rw [bsF_lt (show lo < hi by omega)]
    cases hc : c ((lo + hi) / 2) with
    | true =>
      rw [if_pos rfl]
      by_cases h : k ≤ (lo + hi) / 2
      · have hb := (bsF_bd c _ ((lo + hi) / 2 + 1) hi rfl (by omega)).1
        exact ⟨fun _ => by omega, fun _ => mono _ _ h hc⟩
      · exact ih (hi - ((lo + hi) / 2 + 1)) (by omega) ((lo + hi) / 2 + 1) hi rfl (by omega) k (by omega) hk2
    | false =>
      rw [if_neg (by simp)]
      by_cases h : k < (lo + hi) / 2
      · exact ih ((lo + hi) / 2 - lo) (by omega) lo ((lo + hi) / 2) rfl (by omega) k hk1 h
      · have hb := (bsF_bd c _ lo ((lo + hi) / 2) rfl (by omega)).2
        refine ⟨fun h1 => ?_, fun _ => by omega⟩
        rw [mono _ _ (by omega) h1] at hc
        cases hc
theorem bsD_spec {l : List En} {id : Int} (h : AscE l) (k : Nat) (hk : k < l.length) : l[k].id < id ↔ k < bsD l id := by
  have := bsF_spc (c := fun k => match l[k]? with | some t => decide (t.id < id) | none => false) (fun i j hij hc => by
    cases hj : l[j]? with
    | none => rw [hj] at hc; cases hc
    | some t =>
      rw [hj] at hc
      obtain ⟨h1, rfl⟩ := List.getElem?_eq_some_iff.1 hj
      simp only [decide_eq_true_eq] at hc
      rw [List.getElem?_eq_getElem (show i < l.length by omega)]
      simp only [decide_eq_true_eq]
      by_cases e : i = j
      · subst e; exact hc
      · have := List.pairwise_iff_getElem.1 h i j (by omega) h1 (by omega)
        omega) _ 0 l.length rfl (by omega) k (by omega) hk
  simp only [List.getElem?_eq_getElem hk, decide_eq_true_eq] at this
  exact this
def oths (x : En) (l : List En) : List En := l.filter (fun e => e.id != x.id)
def putG (x : En) : List En → List En
  | [] => [x]
  | e :: r => if x.id ≤ e.id then x :: oths x (e :: r) else e :: putG x r
theorem putG_len (x : En) : ∀ l : List En, (putG x l).length ≤ l.length + 1
  | [] => Nat.le_refl _
  | e :: r => by
    have h1 := putG_len x r
    have h2 : (oths x (e :: r)).length ≤ (e :: r).length := List.length_filter_le _ _
    rw [putG]
    split
    · simp only [List.length_cons] at h2 ⊢; omega
    · simp only [List.length_cons]; omega
theorem part (x : En) {l : List En} (h : AscE l) : ∃ L R, l = L ++ R ∧ (∀ e ∈ L, e.id < x.id) ∧ (∀ e ∈ R, x.id ≤ e.id) ∧ L.length = bsD l x.id := by
  have hb := bsD_le l x.id
  refine ⟨l.take (bsD l x.id), l.drop (bsD l x.id), (List.take_append_drop _ _).symm, fun e he => ?_, fun e he => ?_, by simp; omega⟩
  · obtain ⟨i, hi, rfl⟩ := List.mem_iff_getElem.1 he
    rw [List.length_take] at hi
    rw [List.getElem_take]
    exact (bsD_spec h i (by omega)).2 (by omega)
  · obtain ⟨i, hi, rfl⟩ := List.mem_iff_getElem.1 he
    rw [List.length_drop] at hi
    rw [List.getElem_drop]
    have := bsD_spec (id := x.id) h (bsD l x.id + i) (by omega)
    omega
theorem putG_part (x : En) : ∀ {L R : List En}, (∀ e ∈ L, e.id < x.id) → (∀ e ∈ R, x.id ≤ e.id) → putG x (L ++ R) = L ++ x :: oths x R
  | [], [], _, _ => rfl
  | [], e :: r, _, h => by rw [List.nil_append, putG, if_pos (h e (by simp))]; rfl
  | a :: L, R, h1, h2 => by
    have := h1 a (by simp)
    rw [List.cons_append, putG, if_neg (by omega), putG_part x (fun e he => h1 e (by simp [he])) h2]
    rfl
theorem putG_putD {x : En} {l : List En} (h : AscE l) : putG x l = putD x l := by
  obtain ⟨L, R, hl, h1, h2, h3⟩ := part x h
  rw [putD, ← h3]
  rw [hl] at h ⊢
  rw [putG_part x h1 h2]
  unfold hasD
  cases R with
  | nil => simp [oths]
  | cons e r =>
    have he := h2 e (by simp)
    have hr : ∀ y ∈ r, e.id < y.id := fun y hy => (List.pairwise_cons.1 (List.pairwise_append.1 h).2.1).1 y hy
    have ho : oths x r = r := by
      rw [oths, List.filter_eq_self]
      intro y hy
      have := hr y hy
      simp; omega
    rw [List.getElem?_append_right (Nat.le_refl _), Nat.sub_self]
    simp only [List.getElem?_cons_zero, List.take_left, List.drop_left]
    by_cases hx : e.id = x.id
    · rw [if_pos (by simp [hx])]
      rw [List.set_append_right _ _ (Nat.le_refl _), Nat.sub_self, List.set_cons_zero]
      have : oths x (e :: r) = oths x r := by simp [oths, hx]
      rw [this, ho]
    · rw [if_neg (by simp [hx])]
      have : oths x (e :: r) = e :: oths x r := by simp [oths, hx]
      rw [this, ho]
theorem fnd_put_ne {x : En} {l : List En} {j : Int} (h : AscE l) (hj : j ≠ x.id) : fndD j (putD x l) = fndD j l := by
  obtain ⟨L, R, hl, h1, h2, h3⟩ := part x h
  have h4 := putG_part x h1 h2
  rw [← hl, putG_putD h] at h4
  unfold fndD
  rw [h4, hl, List.find?_append, List.find?_append, List.find?_cons]
  have : (x.id == j) = false := by simp; omega
  rw [this]
  have : (oths x R).find? (fun e => e.id == j) = R.find? (fun e => e.id == j) := by
    rw [oths, List.find?_filter]
    congr 1
    funext e
    by_cases he : e.id = j
    · simp [he, hj]
    · simp [he]
  rw [this]
theorem mem_put {x : En} {l : List En} (h : AscE l) {e : En} (he : e ∈ putD x l) : e = x ∨ e ∈ l := by
  obtain ⟨L, R, hl, h1, h2, h3⟩ := part x h
  have h4 := putG_part x h1 h2
  rw [← hl, putG_putD h] at h4
  rw [h4] at he
  rw [hl]
  simp only [oths, List.mem_append, List.mem_cons, List.mem_filter] at he ⊢
  rcases he with h | h | h
  · exact .inr (.inl h)
  · exact .inl h
  · exact .inr (.inr h.1)
theorem put_asc {x : En} {l : List En} (h : AscE l) : AscE (putD x l) := by
  obtain ⟨L, R, hl, h1, h2, h3⟩ := part x h
  have h4 := putG_part x h1 h2
  rw [← hl, putG_putD h] at h4
  rw [h4]
  unfold AscE at h ⊢
  rw [hl, List.pairwise_append] at h
  rw [List.pairwise_append, List.pairwise_cons]
  refine ⟨h.1, ⟨fun e he => ?_, List.Pairwise.filter _ h.2.1⟩, fun a ha b hb => ?_⟩
  · simp only [oths, List.mem_filter] at he
    have := h2 e he.1
    have h5 : e.id ≠ x.id := by simpa using he.2
    omega
  · have := h1 a ha
    rcases List.mem_cons.1 hb with rfl | hb
    · exact this
    · simp only [oths, List.mem_filter] at hb
      exact h.2.2 a ha b hb.1
theorem putD_len {x : En} {l : List En} (h : AscE l) : (putD x l).length ≤ l.length + 1 := by rw [← putG_putD h]; exact putG_len x l
theorem put_valid {nd : Int} {x : En} {l : List En} (h : validD nd l = true) (hx : fineB x = true) : validD nd (putD x l) = true :=
  validD_of (put_asc (validD_ascE h)) (fun e he => by
    rcases mem_put (validD_ascE h) he with rfl | he
    · exact hx
    · exact validD_fine h e he) (validD_node h)
theorem wit_ins : ∀ {l : List Int} {n : Int}, Dir.Asc l → wit n l = Dir.ins n (Dir.oth l n)
  | [], n, _ => rfl
  | x :: r, n, h => by
    have h1 := List.pairwise_cons.1 h
    rw [wit]
    by_cases hx : x < n
    · have : (x != n) = true := by simp; omega
      have ho : Dir.oth (x :: r) n = x :: Dir.oth r n := by simp only [Dir.oth, List.filter_cons, this, if_true]
      rw [if_pos hx, ho, Dir.ins, if_pos hx, wit_ins h1.2]
    · rw [if_neg hx]
      have hr : Dir.oth r n = r := by
        rw [Dir.oth, List.filter_eq_self]
        intro y hy
        have := h1.1 y hy
        simp; omega
      by_cases he : x = n
      · subst he
        have ho : Dir.oth (x :: r) x = r := by rw [Dir.oth, List.filter_cons_of_neg (by simp)]; exact hr
        rw [if_pos rfl, ho]
        cases r with
        | nil => rfl
        | cons y r =>
          have := h1.1 y (by simp)
          rw [Dir.ins, if_neg (by omega)]
      · have : (x != n) = true := by simp [he]
        have ho : Dir.oth (x :: r) n = x :: r := by
          have : Dir.oth (x :: r) n = x :: Dir.oth r n := by simp only [Dir.oth, List.filter_cons, this, if_true]
          rw [this, hr]
        rw [if_neg he, ho, Dir.ins, if_neg hx]
structure Hn (e : En) : Prop where
  id : e.id ≠ 0
  o1 : -1 ≤ e.owner
  o2 : e.owner ≤ 127
  rd : ascN e.readers = true
  wt : ascN e.waiting = true
  ow : e.owner = -1 ∨ (e.readers = [] ∧ zO? e.obj = true)
  ob : oid e.obj = e.id ∨ zO? e.obj = true
  st : ∀ w ∈ e.waiting, w = e.owner ∨ w ∈ e.readers
  qu : ∀ p ∈ e.queue, okN p.1 = true ∧ okM p.2 = true
theorem fineB_iff {e : En} : fineB e = true ↔ Hn e ∧ (e.waiting ≠ [] ∨ e.queue = []) := by
  unfold fineB
  have c1 : (e.waiting.any (strg e)) = false ↔ ∀ w ∈ e.waiting, w = e.owner ∨ w ∈ e.readers := by
    rw [List.any_eq_false]
    simp only [strg, Bool.and_eq_true, bne_iff_ne, ne_eq, Bool.not_eq_true', decide_eq_false_iff_not, not_and, Classical.not_not]
    exact forall_congr' fun w => forall_congr' fun _ => ⟨fun h => (Classical.em (w = e.owner)).elim .inl (fun hw => .inr (h hw)), fun h hw => h.resolve_left hw⟩
  have c2 : (e.queue.any oddA) = false ↔ ∀ p ∈ e.queue, okN p.1 = true ∧ okM p.2 = true := by
    rw [List.any_eq_false]
    simp only [oddA, Bool.or_eq_true, Bool.not_eq_true', not_or, Bool.not_eq_false]
  have c3 : (decide ((0 : Int) < e.waiting.length) || (e.queue.length : Int) == 0) = true ↔ (e.waiting ≠ [] ∨ e.queue = []) := by
    rw [Bool.or_eq_true, decide_eq_true_eq, beq_iff_eq, ← List.length_pos_iff, ← List.length_eq_zero_iff]
    omega
  have c4 : ((e.readers.length : Int) == 0) = true ↔ e.readers = [] := by
    rw [beq_iff_eq, ← List.length_eq_zero_iff]
    omega
  simp only [Bool.and_eq_true, bne_iff_ne, ne_eq, decide_eq_true_eq, Bool.not_eq_true', c1, c2, c3, Bool.or_eq_true (e.owner == -1), Bool.or_eq_true (oid e.obj == e.id), beq_iff_eq (a := e.owner), beq_iff_eq (a := oid e.obj), c4]
  constructor
  · rintro ⟨a, b, c, d, f, g, h, i, j, k⟩
    exact ⟨⟨a, b, c, d, f, g, h, i, j⟩, k⟩
  · rintro ⟨⟨a, b, c, d, f, g, h, i, j⟩, k⟩
    exact ⟨a, b, c, d, f, g, h, i, j, k⟩
theorem okN_iff {n : Int} : okN n = true ↔ 0 ≤ n ∧ n ≤ 127 := by simp [okN]
theorem ascN_oth {l : List Int} (h : ascN l = true) (n : Int) : ascN (Dir.oth l n) = true := by
  rw [ascN_iff] at h ⊢
  exact ⟨fun x hx => h.1 x (Dir.mem_oth.1 hx).1, Dir.asc_oth h.2 n⟩
theorem ascN_ins {l : List Int} {n : Int} (h : ascN l = true) (hn : okN n = true) : ascN (Dir.ins n (Dir.oth l n)) = true := by
  rw [ascN_iff] at h ⊢
  refine ⟨fun x hx => ?_, Dir.asc_ins (Dir.asc_oth h.2 n) (by rw [Dir.mem_oth]; simp)⟩
  rcases Dir.mem_ins.1 hx with rfl | hx
  · exact hn
  · exact h.1 x (Dir.mem_oth.1 hx).1
theorem zO_zOb : zO? zOb = true := by kernel_rfl
theorem goOn_hn (q : List (Int × Int)) : ∀ (e : En), e.queue = q → Hn e → Hn (Dir.goOn zOb e).2 ∧ ((Dir.goOn zOb e).2.waiting ≠ [] ∨ (Dir.goOn zOb e).2.queue = []) := by
  induction q with
  | nil =>
    intro e hq h
    by_cases hw : e.waiting = []
    · rw [go_nil hq]; exact ⟨h, .inr hq⟩
    · rw [go_wait hw]; exact ⟨h, .inl hw⟩
  | cons p q ih =>
    intro e hq h
    by_cases hw : e.waiting = []
    · obtain ⟨a, m⟩ := p
      have hp := h.qu (a, m) (by rw [hq]; simp)
      have hq2 : ∀ p ∈ q, okN p.1 = true ∧ okM p.2 = true := fun p hp => h.qu p (by rw [hq]; simp [hp])
      dsimp only at hp
      by_cases ho : e.owner = -1
      · by_cases hm : m = 1
        · subst hm
          rw [go_read hw hq ho]
          exact ih _ rfl ⟨h.id, h.o1, h.o2, ascN_ins h.rd hp.1, h.wt, .inl ho, h.ob, by simp only [hw]; simp, hq2⟩
        · by_cases hd : Dir.oth e.readers a = []
          · rw [go_write hw hq ho hm hd]
            have := okN_iff.1 hp.1
            exact ih _ rfl ⟨h.id, by dsimp only; omega, by dsimp only; omega, rfl, h.wt, .inr ⟨rfl, zO_zOb⟩, .inr zO_zOb, by simp only [hw]; simp, hq2⟩
          · rw [go_dem hw hq ho hm hd]
            exact ⟨⟨h.id, h.o1, h.o2, h.rd, ascN_oth h.rd a, h.ow, h.ob, fun w hw => .inr (Dir.mem_oth.1 hw).1, h.qu⟩, .inl hd⟩
      · rw [go_own hw hq ho]
        have h1 := h.o1
        have h2 := h.o2
        refine ⟨⟨h.id, h.o1, h.o2, h.rd, ?_, h.ow, h.ob, fun w hw => .inl (by simpa using hw), h.qu⟩, .inl (by simp)⟩
        rw [ascN_iff]
        exact ⟨fun x hx => by simp only [List.mem_singleton] at hx; subst hx; exact okN_iff.2 (by omega), List.pairwise_singleton _ _⟩
    · rw [go_wait hw]
      exact ⟨h, .inl hw⟩
theorem goOn_fine {e : En} (h : Hn e) : fineB (Dir.goOn zOb e).2 = true := fineB_iff.2 (goOn_hn _ e rfl h)
theorem ent0_hn {id : Int} (h : id ≠ 0) : Hn (ent0 id) := by
  unfold ent0 ow0
  refine ⟨h, ?_, ?_, rfl, rfl, .inr ⟨rfl, zO_zOb⟩, .inr zO_zOb, by simp, by simp⟩
  all_goals dsimp only
  all_goals split
  all_goals first | omega | (rename_i h; have := okN_iff.1 h; omega)
theorem fnd_hn {nd : Int} {l : List En} (h : validD nd l = true) {id : Int} (h0 : id ≠ 0) : Hn (fndD id l) := by
  unfold fndD
  cases hf : l.find? (fun e => e.id == id) with
  | none => exact ent0_hn h0
  | some e => exact (fineB_iff.1 (validD_fine h e (List.mem_of_find?_eq_some hf))).1
theorem fnd_id (l : List En) (id : Int) : (fndD id l).id = id := by
  unfold fndD
  cases hf : l.find? (fun e => e.id == id) with
  | none => rfl
  | some e => simpa using List.find?_some hf
end Go.Abs.Nz
namespace Go.Abs.Nz
open Go Go.Proofs Go.Abs
set_option maxRecDepth 100000
set_option maxHeartbeats 4000000
set_option linter.unusedSimpArgs false
set_option linter.unusedVariables false
attribute [local simp] instA slice3A slice3C
attribute [-simp] mkv
attribute [local simp] mkv_hd hdA_cons hdA_ob hdA_ob'
def restG (x : En) (done : Bool) (l : List En) : List En := if done then oths x l else putG x l
structure Pt where
  d : Drs
  x : En
noncomputable def rptS : SpecFn := mkS (fun p : Pt => [p.d.v, .agg (enC p.x)]) fun p => (.agg [.int .i64 p.d.node, .list 41 ((putG p.x p.d.ents).map enC)], [])
theorem rptS_eq (p : Pt) : rptS [p.d.v, .agg (enC p.x)] [] = some (.agg [.int .i64 p.d.node, .list 41 ((putG p.x p.d.ents).map enC)], []) :=
  mkS_eq (enc := fun p : Pt => [p.d.v, AV.agg (enC p.x)]) (res := fun p => (.agg [.int .i64 p.d.node, .list 41 ((putG p.x p.d.ents).map enC)], [])) (fun x y h => by
    obtain ⟨a, b⟩ := x
    obtain ⟨a', b'⟩ := y
    simp only [List.cons.injEq, AV.agg.injEq, and_true] at h
    cases Drs.v_inj h.1
    cases enC_inj h.2
    rfl) p
theorem drs_nrmR (n : Int) (l : List En) : nrmR Tryz.prog [71] (.agg [.int .i64 n, .list 41 (l.map enC)]) = .agg [.int .i64 n, .list 41 (l.map enC)] := drs_nrmV n l
structure PtI (nd : Int) (x : En) (l : List En) where
  k : Nat
  done : Bool
  T : List En
  g : Nat
  H : NL ABlk
  hk : k ≤ l.length
  hT : T.length ≤ k + done.toNat
  res : T ++ restG x done (l.drop k) = putG x l
  g3 : lk H 64 = some { gen := 1, kind := 2, elem := 85, size := 41, inl := false, rows := [enC x] }
  g4 : ∃ row, lk H 80 = some { gen := 1, kind := 2, elem := 71, size := 2, inl := false, rows := [[.int .i64 0, .nils]] } ∧ row = (0 : Nat)
  g5 : lk H 96 = some { gen := 1, kind := 2, elem := 71, size := 2, inl := false, rows := [[.int .i64 nd, .sl 20000 g 0 T.length]] }
  gM : lk H 20000 = some { gen := g, kind := 2, elem := 85, size := 41, inl := true, rows := T.map enC }
theorem rpt_ok : FnC Tryz.prog 119 rptS := by
  refine FnC.walkN 119 (fn := Tryz.f119) [71] Tryz.func119 rfl (by kernel_rfl) (fun d => ?_) (fun d => ⟨_, drs_nrmR _ _⟩)
  obtain ⟨⟨nd, l, hl, he⟩, x⟩ := d
  change W _ (RetNf _ _ _ (.agg [.int .i64 nd, .list 41 ((putG x l).map enC)]) []) _ _ ⟨55, [(0, .agg [.int .i64 nd, .list 41 (l.map enC)]), (1, .agg (enC x))], []⟩
  have cap : l.length ≤ 9223372036854775807 := by omega
  repeat' (first | refine ZV ?_ | refine ZB (id := 0) tm no_specs ?_ | refine ZB (id := 1) tm no_specs ?_ | refine ZB (id := 2) tm no_specs ?_ | refine ZH (fun hb => ?_) (fun hb => ?_) | refine ZJ (by conv => lhs; simp [cap]) ?_ | refine ZA (fun hb => ?_) (fun hb => ?_))
  refine W.phR 96 0 1 20000 85 41 true rfl rfl rfl rfl rfl rfl (by decide) ?_
  repeat' (first | refine ZV ?_ | refine ZB tm no_specs ?_ | refine ZH (fun hb => ?_) (fun hb => ?_) | refine ZJ (by conv => lhs; simp [cap]) ?_ | refine ZA (fun hb => ?_) (fun hb => ?_))
  refine W.loop rfl (ι := PtI nd x l)
    (fun q => ⟨55, [(3, .ptr 64 1 0 0), (4, .ptr 80 1 0 0), (5, .ptr 96 1 0 0), (6, .bool q.done), (13, .list 41 (l.map enC)), (14, .int .i64 l.length), (15, .int .i64 (q.k : Nat))], q.H⟩) (fun q => l.length - q.k)
    ⟨0, false, [], 0, _, by simp, by simp, by simp [restG], by simp [lk_st], ⟨0, by simp [lk_st], rfl⟩, by simp [lk_st], by simp [lk_st]⟩ (AS.le_of rfl ⟨rfl, rfl, rfl, rfl, rfl, rfl, rfl, trivial⟩ (fun _ => rfl)) ?_
  rintro ⟨k, dn, T, g, H, hk, hT, res, g3, ⟨_, g4, _⟩, g5, gM⟩
  dsimp only at hk hT res g3 g4 g5 gM ⊢
  simp only [enC] at g3
  have hdn : dn.toNat ≤ 1 := Bool.toNat_le dn
  have y1 : T.length ≤ maxLen := by simp only [maxLen]; omega
  have y2 : (T.length + 1) * 552 ≤ 140737488355328 := by omega
  have y4 : T.length + 1 ≤ maxLen := by simp only [maxLen]; omega
  have fT : firstRows T.length (T.map enC) = T.map enC := first_all (by simp)
  by_cases hk2 : k = l.length
  · subst hk2
    rw [List.drop_length] at res
    cases dn with
    | true =>
      have : putG x l = T := by rw [← res]; simp [restG, oths]
      rw [this]
      have tT : List.take T.length (T.map enC) = T.map enC := List.take_of_length_le (by simp)
      repeat' (first | refine ZV ?_ | refine ZB tm no_specs ?_ | refine ZH (fun hb => ?_) (fun hb => ?_) | refine ZJ (by conv => lhs; simp [g3, g4, g5, gM]) ?_ | refine ZA (fun hb => ?_) (fun hb => ?_))
      refine RetNf.dataE rfl (by conv => lhs; simp) (by conv => lhs; simp [frqT, frqV, frqL, frq1, frz1, AP.run, gM, tT]) (by first | rfl | simp [inlT, inlV]) ?_
      exact drs_nrmR nd T
    | false =>
      obtain ⟨T2, hT2⟩ : ∃ T2, T ++ [x] = T2 := ⟨_, rfl⟩
      have : putG x l = T2 := by rw [← res, ← hT2]; simp [restG, putG]
      rw [this]
      have hl2 : T2.length = T.length + 1 := by rw [← hT2]; simp
      have hrow : T.map enC ++ [enC x] = T2.map enC := by rw [← hT2]; simp
      simp only [enC] at hrow
      have tT : List.take (T.length + 1) (T2.map enC) = T2.map enC := List.take_of_length_le (by simp; omega)
      clear hdn
      repeat' (first | refine ZV ?_ | refine ZB tm no_specs ?_ | refine ZH (fun hb => ?_) (fun hb => ?_) | refine ZJ (by conv => lhs; simp [g3, g4, g5, gM, y1, y2, y4, fT, hrow, m1]) ?_ | refine ZA (fun hb => ?_) (fun hb => ?_))
      refine RetNf.dataE rfl (by conv => lhs; simp) (by conv => lhs; simp [frqT, frqV, frqL, frq1, frz1, AP.run, gM, tT, hl2]) (by first | rfl | simp [inlT, inlV]) ?_
      exact drs_nrmR nd T2
  · have hlt : k < l.length := by omega
    obtain ⟨e, hr⟩ := get_lt hlt
    have hm : (l.map enC)[k]? = some (enC e) := by rw [List.getElem?_map, hr]; rfl
    have hd : l.drop k = e :: l.drop (k + 1) := by
      obtain ⟨h1, h2⟩ := List.getElem?_eq_some_iff.1 hr
      rw [List.drop_eq_getElem_cons h1, h2]
    rw [hd] at res
    have q1 : (k : Int) < l.length := by omega
    have q2 : ¬ l.length ≤ k := by omega
    have hw : IntKind.i64.wrap ((k : Int) + 1) = ((k + 1 : Nat) : Int) := w64 (by omega) (by omega)
    simp only [enC] at hm
    have hrowE : T.map enC ++ [enC e] = (T ++ [e]).map enC := by simp
    simp only [enC] at hrowE
    have hlE : (T ++ [e]).length = T.length + 1 := by simp
    have q3 : (k : Int) < l.length := q1
    obtain ⟨tl, htl⟩ : ∃ tl, l.drop (k + 1) = tl := ⟨_, rfl⟩
    rw [htl] at res
    clear hd hlE hrowE
    repeat' (first | refine ZV ?_ | refine ZB (id := 4) tm no_specs ?_ | refine ZB (id := 5) tm no_specs ?_ | refine ZH (fun hb => ?_) (fun hb => ?_) | refine ZJ (by conv => lhs; simp [q1, q2, hm]) ?_ | refine ZA (fun hb => ?_) (fun hb => ?_))
    refine W.cutT (fun σ' => ∃ (d2 : Bool) (T2 : List En) (g2 G : Nat) (H2 : NL ABlk), T2.length ≤ k + d2.toNat ∧ T2 ++ ((if e.id = x.id then [] else [e]) ++ restG x d2 tl) = putG x l ∧ lk H2 64 = some { gen := 1, kind := 2, elem := 85, size := 41, inl := false, rows := [enC x] } ∧ lk H2 80 = some { gen := 1, kind := 2, elem := 71, size := 2, inl := false, rows := [[.int .i64 0, .nils]] } ∧ lk H2 96 = some { gen := 1, kind := 2, elem := 71, size := 2, inl := false, rows := [[.int .i64 nd, .sl 20000 g2 0 T2.length]] } ∧ lk H2 20000 = some { gen := g2, kind := 2, elem := 85, size := 41, inl := true, rows := T2.map enC } ∧ lk H2 144 = some { gen := G, kind := 2, elem := 85, size := 41, inl := false, rows := [enC e] } ∧ AS.le ⟨55, [(3, .ptr 64 1 0 0), (4, .ptr 80 1 0 0), (5, .ptr 96 1 0 0), (6, .bool d2), (8, .ptr 144 G 0 0), (13, .list 41 (l.map enC)), (14, .int .i64 l.length), (15, .int .i64 (k : Nat))], H2⟩ σ') ?_ ?_
    · cases dn with
      | true =>
        have r1 : T ++ ((if e.id = x.id then [] else [e]) ++ restG x true tl) = putG x l := by
          rw [← res]
          simp only [restG, if_true]
          congr 1
          by_cases hne : e.id = x.id
          · rw [if_pos hne]; simp [oths, hne]
          · rw [if_neg hne]; simp [oths, hne]
        repeat' (first | refine ZV ?_ | refine ZB tm no_specs ?_ | refine ZH (fun hb => ?_) (fun hb => ?_) | refine ZJ (by conv => lhs; simp [g3, g4, g5, gM]) ?_ | refine ZA (fun hb => ?_) (fun hb => ?_))
        exact ⟨true, T, g, _, _, hT, r1, by simp [lk_st, g3, enC], by simp [lk_st, g4], by simp [lk_st, g5], by simp [lk_st, gM], by simp [lk_st, enC], AS.le_of rfl ⟨rfl, rfl, rfl, rfl, rfl, rfl, rfl, rfl, trivial⟩ (fun _ => rfl)⟩
      | false =>
        simp only [restG, Bool.false_eq_true, if_false] at res
        by_cases n2 : x.id ≤ e.id
        · have hrow : T.map enC ++ [enC x] = (T ++ [x]).map enC := by simp
          simp only [enC] at hrow
          have hl2 : (T ++ [x]).length = T.length + 1 := by simp
          have r1 : (T ++ [x]) ++ ((if e.id = x.id then [] else [e]) ++ restG x true tl) = putG x l := by
            rw [← res, putG, if_pos n2]
            simp only [restG, if_true, List.append_assoc, List.cons_append, List.nil_append]
            congr 2
            by_cases hne : e.id = x.id
            · rw [if_pos hne]; simp [oths, hne]
            · rw [if_neg hne]; simp [oths, hne]
          generalize T ++ [x] = T2 at *
          have r2 : T2.length ≤ k + (true : Bool).toNat := by simp only [Bool.toNat_true, Bool.toNat_false] at hT ⊢; omega
          clear hdn
          repeat' (first | refine ZV ?_ | refine ZB tm no_specs ?_ | refine ZH (fun hb => ?_) (fun hb => ?_) | refine ZJ (by conv => lhs; simp [n2, g3, g4, g5, gM, y1, y2, y4, fT, hrow, m1]) ?_ | refine ZA (fun hb => ?_) (fun hb => ?_))
          exact ⟨true, T2, g + 1, _, _, r2, r1, by simp [lk_st, g3, enC], by simp [lk_st, g4], by simp [lk_st, hl2], by simp [lk_st], by simp [lk_st, enC], AS.le_of rfl ⟨rfl, rfl, rfl, rfl, rfl, rfl, rfl, rfl, trivial⟩ (fun _ => rfl)⟩
        · have r1 : T ++ ((if e.id = x.id then [] else [e]) ++ restG x false tl) = putG x l := by
            have hne : e.id ≠ x.id := by omega
            rw [← res, putG, if_neg n2, if_neg hne]
            simp [restG]
          clear hdn
          repeat' (first | refine ZV ?_ | refine ZB tm no_specs ?_ | refine ZH (fun hb => ?_) (fun hb => ?_) | refine ZJ (by conv => lhs; simp [n2, g3, g4, g5, gM]) ?_ | refine ZA (fun hb => ?_) (fun hb => ?_))
          exact ⟨false, T, g, _, _, hT, r1, by simp [lk_st, g3, enC], by simp [lk_st, g4], by simp [lk_st, g5], by simp [lk_st, gM], by simp [lk_st, enC], AS.le_of rfl ⟨rfl, rfl, rfl, rfl, rfl, rfl, rfl, rfl, trivial⟩ (fun _ => rfl)⟩
    · clear y1 y2 y4 fT g3 g4 g5 gM hT res hdn
      rintro σ' ⟨d2, T, g, G, H, hT, res, g3, g4, g5, gM, g8, hle⟩
      refine W.weak hle ?_
      clear hle
      have hdn : d2.toNat ≤ 1 := Bool.toNat_le d2
      have y1 : T.length ≤ maxLen := by simp only [maxLen]; omega
      have y2 : (T.length + 1) * 552 ≤ 140737488355328 := by omega
      have y4 : T.length + 1 ≤ maxLen := by simp only [maxLen]; omega
      have fT : firstRows T.length (T.map enC) = T.map enC := first_all (by simp)
      subst htl
      simp only [enC] at g3 g8
      by_cases hne : e.id = x.id
      · have n1 : (e.id != x.id) = false := by simp [hne]
        rw [if_pos hne] at res
        repeat' (first | refine ZV ?_ | refine ZB tm no_specs ?_ | refine ZH (fun hb => ?_) (fun hb => ?_) | refine ZJ (by conv => lhs; simp [n1, hw, g3, g4, g5, gM, g8]) ?_ | refine ZA (fun hb => ?_) (fun hb => ?_))
        exact ⟨⟨k + 1, d2, T, g, _, hlt, by omega, res, by simp [lk_st, g3, enC], ⟨0, by simp [lk_st, g4], rfl⟩, by simp [lk_st, g5], by simp [lk_st, gM]⟩, by dsimp only; omega, AS.le_of rfl ⟨rfl, rfl, rfl, rfl, rfl, rfl, rfl, trivial⟩ (fun _ => rfl)⟩
      · have n1 : (e.id != x.id) = true := by simp [hne]
        rw [if_neg hne] at res
        have hrow : T.map enC ++ [enC e] = (T ++ [e]).map enC := by simp
        simp only [enC] at hrow
        have hl2 : (T ++ [e]).length = T.length + 1 := by simp
        have r1 : (T ++ [e]) ++ restG x d2 (l.drop (k + 1)) = putG x l := by rw [← res]; simp
        generalize T ++ [e] = T2 at *
        have r2 : T2.length ≤ k + 1 + d2.toNat := by omega
        clear hdn
        repeat' (first | refine ZV ?_ | refine ZB tm no_specs ?_ | refine ZH (fun hb => ?_) (fun hb => ?_) | refine ZJ (by conv => lhs; simp [n1, hw, g3, g4, g5, gM, g8, y1, y2, y4, fT, hrow, m1]) ?_ | refine ZA (fun hb => ?_) (fun hb => ?_))
        exact ⟨⟨k + 1, d2, T2, g + 1, _, hlt, r2, r1, by simp [lk_st, g3, enC], ⟨0, by simp [lk_st, g4], rfl⟩, by simp [lk_st, hl2], by simp [lk_st]⟩, by dsimp only; omega, AS.le_of rfl ⟨rfl, rfl, rfl, rfl, rfl, rfl, rfl, trivial⟩ (fun _ => rfl)⟩
end Go.Abs.Nz
