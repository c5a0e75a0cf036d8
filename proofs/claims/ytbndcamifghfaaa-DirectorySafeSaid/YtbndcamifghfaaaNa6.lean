/- Searching entries; the end of a session. Conditions: none. -/
import Derived.Test.YtbndcamifghfaaaNa5
import Derived.Test.YtbndcamifghfaaaAb6
namespace Go.Abs.Na
open Go Go.Proofs Go.Abs
set_option maxRecDepth 100000
set_option maxHeartbeats 4000000
set_option linter.unusedSimpArgs false
set_option linter.unusedVariables false
attribute [local simp] instA slice3A slice3C
attribute [-simp] mkv
attribute [local simp] mkv_hd hdA_cons hdA_ob hdA_ob'
theorem ovlB176 : ovlB Try.prog 218 = true := by kernel_rfl
theorem ovlT176 : ovlT Try.prog 218 = some (93, 41) := by kernel_rfl
theorem ins_grow176 {α : Type} {l : List α} {n i : Nat} {t z : α} (hn : l.length = n) (hi : i ≤ l.length) :
    List.take (i + 1) (List.take i l ++ t :: List.replicate (n - i) z) ++ (List.take (n - i) (List.take (n - i) (List.drop i l)) ++ List.drop (i + 1 + (n - i)) (List.take i l ++ t :: List.replicate (n - i) z)) = List.take i l ++ t :: List.drop i l := by
  subst hn
  have h1 : (List.take i l).length = i := by rw [List.length_take]; omega
  have h2 : (List.drop i l).length = l.length - i := List.length_drop
  generalize List.take i l = A at h1 ⊢
  generalize List.drop i l = B at h2 ⊢
  subst h1
  rw [List.take_append, List.drop_append, List.take_of_length_le (Nat.le_succ _), show A.length + 1 - A.length = 1 from by omega, List.take_succ_cons, List.take_zero,
    List.drop_of_length_le (by omega), List.nil_append, show A.length + 1 + (l.length - A.length) - A.length = (l.length - A.length) + 1 from by omega, List.drop_succ_cons, List.drop_of_length_le (by simp),
    List.append_nil, List.take_take, Nat.min_self, List.take_of_length_le (by omega), List.append_assoc]
  rfl
theorem ins_place176 {α : Type} {l : List α} {i : Nat} {X : List α} (hi : i ≤ l.length) : List.take i (List.take (i + 1) l ++ List.drop i l) ++ X = List.take i l ++ X := by
  congr 1
  rw [List.take_append, List.take_take, Nat.min_eq_left (Nat.le_succ i), show i - (List.take (i + 1) l).length = 0 from by rw [List.length_take]; omega, List.take_zero, List.append_nil]
theorem insert176_ok : FnC Try.prog 176 (insertC 117 41 552) := by
  refine FnC.ofV 176 (fn := Try.f176) Try.func176 rfl (by kernel_rfl) fun args B r B' hS => ?_
  unfold insertC at hS
  split at hS
  · rename_i len i b c
    split at hS
    · rename_i hc
      obtain ⟨hb, hcc, rfl, k1, k2, k3, k4, k5⟩ := hc
      simp only [Option.some.injEq, Prod.mk.injEq] at hS
      obtain ⟨rfl, rfl⟩ := hS
      rw [okB_eq hb, okB_eq hcc]
      generalize b.rows = l at k2 k3 k5 ⊢
      generalize c.rows = cr at k1 ⊢
      obtain ⟨t, rfl⟩ : ∃ t, cr = [t] := List.length_eq_one_iff.1 k1
      obtain ⟨i, rfl⟩ : ∃ n : Nat, i = n := ⟨i.toNat, by omega⟩
      have hi : i ≤ l.length := by omega
      simp only [Int.toNat_natCast]
      refine ⟨by simp, ?_⟩
      change V _ (RetM _ _ 2 _ _) _ _ ⟨95, [(0, .sl 0 0 0 l.length), (1, .int .i64 (i : Nat)), (2, .sl 1 0 0 1)], [(0, { gen := 0, kind := 2, elem := 117, size := 41, inl := true, rows := l }), (1, { gen := 0, kind := 2, elem := 117, size := 41, inl := true, rows := [t] })]⟩
      have c1 : l.length + 1 ≤ 9223372036854775807 := by omega
      have c2 : l.length ≤ 9223372036854775807 := by omega
      have c3 : l.length * 552 ≤ 140737488355328 := by omega
      have c4 : (l.length + 1) * 552 ≤ 140737488355328 := k2
      have m1' : (1 : Nat) ≤ maxLen := by decide
      try simp only [Nat.mul_one] at c3 c4
      by_cases hin : i = l.length
      · subst hin
        clear hi k3 k4 k5 k2
        repeat (first | refine NV.seq ?_ | refine NV.blk ?_ | refine V.seq rfl ?_ | refine V.block rfl ?_ | refine V.skip rfl ?_ | refine V.ret rfl ?_ | refine NV.nil ?_ | refine NV.loop ?_ | refine V.exit rfl ?_ | refine XV.seq ?_ | refine XV.loop ?_ | refine XV.hit ?_ | refine XV.pass (by decide) ?_ | refine V.condT rfl (by rfl) ?_ | refine V.condF rfl (by rfl) ?_ | refine V.region tm no_specs rfl (by conv => lhs; simp [c1, c2, c3, c4, maxLen, m1']) fun _ => ?_ | refine V.regionD tm no_specs rfl (by conv => lhs; simp [c1, c2, c3, c4, maxLen, m1']) (by conv => lhs; simp) (by kernel_rfl) fun _ => ?_)
        refine retM2_ok false [0, 1] [1, 0] ?_
        simp [retM2, movedOK, oldOK, frqT, frqV, frqVs, frqL, frq1, expG, expB3, renB, AV.ren, renL, List.range, List.range.loop, resVs, resV, pack, List.zipWith, List.idxOf?, List.findIdx?, List.findIdx?.go, rowB]
      · have hlt : i < l.length := by omega
        have e1 : ((i : Int) == (l.length : Int)) = false := by simpa using fun h => hin (by omega)
        refine V.caps (t := 0) rfl rfl rfl fun cap hc1 hc2 => ?_
        have hic : i ≤ cap := by omega
        have hwi : IntKind.i64.wrap ((i : Int) + 1) = ((i + 1 : Nat) : Int) := by rw [show (i : Int) + 1 = ((i + 1 : Nat) : Int) from by omega]; exact w64 (by omega) (by omega)
        have hw : IntKind.i64.wrap ((l.length : Int) + 1) = (l.length : Int) + 1 := w64 (by omega) (by omega)
        have hw2 : IntKind.i64.wrap ((l.length : Int) + 1 - i) = ((l.length + 1 - i : Nat) : Int) := by rw [show (l.length : Int) + 1 - i = ((l.length + 1 - i : Nat) : Int) from by omega]; exact w64 (by omega) (by omega)
        by_cases hcap : cap < l.length + 1
        · have hcap' : (cap : Int) < l.length + 1 := by omega
          have n1 : i + (l.length + 1 - i) = l.length + 1 := by omega
          have n3 : i ≤ l.length + 1 := by omega
          have n4 : 0 < l.length + 1 - i := by omega
          have n5 : min i l.length = i := by omega
          have n6 : List.take (l.length + 1 - i) [t] = [t] := List.take_of_length_le (by simp; omega)
          have n7 : min (l.length + 1 - i) 1 = 1 := by omega
          have n8 : ∀ z, List.drop (i + 1) (List.take i l ++ List.replicate (l.length + 1 - i) z) = List.replicate (l.length - i) z := fun z => by
            rw [List.drop_append, List.drop_of_length_le (by simp; omega)]
            simp only [List.length_take, n5, List.nil_append, List.drop_replicate]
            congr 1
            omega
          have n9 : l.length ≤ i + (l.length - i) := by omega
          have n10 : (0 : Int) ≤ (i : Int) + 1 := by omega
          clear k3 k4 k5 k2 hin
          repeat (first | refine NV.seq ?_ | refine NV.blk ?_ | refine V.seq rfl ?_ | refine V.block rfl ?_ | refine V.skip rfl ?_ | refine V.ret rfl ?_ | refine NV.nil ?_ | refine NV.loop ?_ | refine V.exit rfl ?_ | refine XV.seq ?_ | refine XV.loop ?_ | refine XV.hit ?_ | refine XV.pass (by decide) ?_ | refine V.condT rfl (by rfl) ?_ | refine V.condF rfl (by rfl) ?_ | refine V.region tm no_specs rfl (by conv => lhs; simp [c1, c2, c3, c4, maxLen, e1, hi, hc1, hic, hcap, hcap', hw, hw2, n1, n3, n4, n5, n6, n7, n8, hwi, n9, n10]) fun _ => ?_ | refine V.regionD tm no_specs rfl (by conv => lhs; simp [c1, c2, c3, c4, maxLen, e1, hi, hc1, hic, hcap, hcap', hw, hw2, n1, n3, n4, n5, n6, n7, n8, hwi, n9, n10]) (by conv => lhs; simp) (by kernel_rfl) fun _ => ?_)
          refine retM2_ok false [656, 1] [1, 0] ?_
          simp [retM2, movedOK, oldOK, frqT, frqV, frqVs, frqL, frq1, expG, expB3, renB, AV.ren, renL, List.range, List.range.loop, resVs, resV, pack, List.zipWith, List.idxOf?, List.findIdx?, List.findIdx?.go, rowB]
          exact ins_grow176 (by simp) (by simpa using hi)
        · have hcap' : ¬ (cap : Int) < l.length + 1 := by omega
          have hcap2 : l.length + 1 ≤ cap := by omega
          have n3 : i ≤ l.length + 1 := by omega
          have n9 : l.length ≤ i + (l.length - i) := by omega
          have n10 : (0 : Int) ≤ (i : Int) + 1 := by omega
          have hw3 : (0 : Int) ≤ (l.length : Int) + 1 := by omega
          have n12 : i + 1 ≤ l.length := hlt
          have n11 : min (l.length - i) (l.length + 1 - i) = l.length - i := by omega
          have n6 : List.take (l.length + 1 - i) [t] = [t] := List.take_of_length_le (by simp; omega)
          have n7 : min (l.length + 1 - i) 1 = 1 := by omega
          have n13 : List.take (l.length - i) (List.take (l.length - i) (List.drop i l)) = List.drop i l := by
            rw [List.take_take, Nat.min_self, List.take_of_length_le (by simp)]
          have n14 : List.drop (i + 1 + (l.length - i)) l = [] := List.drop_of_length_le (by omega)
          have n15 : i ≤ i + 1 + (l.length - i) := by omega
          clear k3 k4 k5 k2 hin
          repeat (first | refine NV.seq ?_ | refine NV.blk ?_ | refine V.seq rfl ?_ | refine V.block rfl ?_ | refine V.skip rfl ?_ | refine NV.nil ?_ | refine NV.loop ?_ | refine V.exit rfl ?_ | refine XV.seq ?_ | refine XV.loop ?_ | refine XV.hit ?_ | refine XV.pass (by decide) ?_ | refine V.condT rfl (by rfl) ?_ | refine V.condF rfl (by rfl) ?_ | refine V.region tm no_specs rfl (by conv => lhs; simp [c1, c2, c3, c4, maxLen, e1, hi, hc1, hic, hcap, hcap', hw, hw2, n3, hwi, n9, n10, hcap2, hw3, ovlB176, ovlT176, n11, n12, n6, n7, n13, n14, n15]) fun _ => ?_ | refine V.regionD tm no_specs rfl (by conv => lhs; simp [c1, c2, c3, c4, maxLen, e1, hi, hc1, hic, hcap, hcap', hw, hw2, n3, hwi, n9, n10, hcap2, hw3, ovlB176, ovlT176, n11, n12, n6, n7, n13, n14, n15]) (by conv => lhs; simp) (by kernel_rfl) fun _ => ?_)
          refine V.uncap (t := 6) rfl ?_
          repeat (first | refine NV.seq ?_ | refine NV.blk ?_ | refine V.seq rfl ?_ | refine V.block rfl ?_ | refine V.skip rfl ?_ | refine V.ret rfl ?_ | refine NV.nil ?_ | refine NV.loop ?_ | refine V.exit rfl ?_ | refine XV.seq ?_ | refine XV.loop ?_ | refine XV.hit ?_ | refine XV.pass (by decide) ?_ | refine V.condT rfl (by rfl) ?_ | refine V.condF rfl (by rfl) ?_ | refine V.region tm no_specs rfl (by conv => lhs; simp) fun _ => ?_ | refine V.regionD tm no_specs rfl (by conv => lhs; simp) (by conv => lhs; simp) (by kernel_rfl) fun _ => ?_)
          refine retM2_ok false [0, 1] [1, 0] ?_
          simp [retM2, movedOK, oldOK, frqT, frqV, frqVs, frqL, frq1, expG, expB3, renB, AV.ren, renL, List.range, List.range.loop, resVs, resV, pack, List.zipWith, List.idxOf?, List.findIdx?, List.findIdx?.go, rowB]
          simpa using ins_place176 (l := l) (i := i) (X := []) hi
    · cases hS
  · cases hS
noncomputable def sr1R (t : En) (y : Int) : AV := .int .i64 (cmpI t.id y)
noncomputable def sr1S : SpecFn := mkS (fun p : En × Int => [.agg (enC p.1), .int .u64 p.2]) fun p => (sr1R p.1 p.2, [])
theorem sr1_eq (t1 t2 : Int) (tr : List Int) (to : Ob) (tw : List Int) (tq : List (Int × Int)) (y : Int) : sr1S [.agg (.int .u64 t1 :: .int .i64 t2 :: .list 1 (tr.map iC) :: (to.cells ++ [.list 1 (tw.map iC), .list 2 (tq.map askC)])), .int .u64 y] [] = some (sr1R ((⟨t1, t2, tr, to, tw, tq⟩ : En)) (y), []) :=
  mkS_eq (enc := fun p : En × Int => [.agg (enC p.1), .int .u64 p.2]) (res := fun p => (sr1R p.1 p.2, [])) (fun x y h => by
    obtain ⟨a0, a1⟩ := x
    obtain ⟨b0, b1⟩ := y
    obtain ⟨h0, h⟩ := List.cons.inj h
    obtain ⟨h1, h⟩ := List.cons.inj h
    have e0 := enC_inj (AVg h0)
    subst e0
    have e1 := AVi h1
    subst e1
    rfl) ((⟨t1, t2, tr, to, tw, tq⟩ : En), y)
noncomputable def sr1_ok_specs : NL Spec := [(154, ⟨1, cmp64S⟩)]
theorem sr1_ok_specs_ok : ∀ p ∈ sr1_ok_specs, FnC Try.prog p.1 p.2.fn := by
  simp only [sr1_ok_specs, List.mem_cons, List.not_mem_nil, or_false]
  rintro p rfl
  · exact cmp64_ok
attribute [local simp] sr1_ok_specs cmp64_eq
theorem sr1_ok : FnC Try.prog 217 sr1S := by
  refine FnC.walk 217 (fn := Try.f217) Try.func217 rfl (by kernel_rfl) fun p => ?_
  obtain ⟨⟨t1, t2, tr, to, tw, tq⟩, y⟩ := p
  change W _ (Ret _ _ (sr1R ((⟨t1, t2, tr, to, tw, tq⟩ : En)) (y)) []) _ _ ⟨9, [(0, .agg (.int .u64 t1 :: .int .i64 t2 :: .list 1 (tr.map iC) :: (to.cells ++ [.list 1 (tw.map iC), .list 2 (tq.map askC)]))), (1, .int .u64 y)], []⟩
  repeat' (first | refine ZV ?_ | refine ZB tm sr1_ok_specs_ok ?_ | refine ZH (fun hb => ?_) (fun hb => ?_) | refine ZJ (by conv => lhs; simp [cmp64R]) ?_ | refine ZA (fun hb => ?_) (fun hb => ?_))
  all_goals (first | refine Ret.dataE rfl (by conv => lhs; simp) (by conv => lhs; simp) (by first | rfl | simp [inlT, inlV]) ?_ | refine RetNf.dataE rfl (by conv => lhs; simp) (by conv => lhs; simp) (by first | rfl | simp [inlT, inlV]) ?_)
  all_goals (first | rfl | (simp [sr1R]; done) | (simp_all [sr1R]; done) | (simp_all [sr1R]; omega))
theorem AVel {n : Nat} {a b : {l : List En // l.length ≤ 9001}} (h : AV.list n (a.1.map enC) = AV.list n (b.1.map enC)) : a = b := Subtype.ext (enCs_inj (AVl h))
def bsD (l : List En) (id : Int) : Nat := bsF (fun k => match l[k]? with | some t => decide (t.id < id) | none => false) 0 l.length
def hasD (l : List En) (k : Nat) (id : Int) : Bool := match l[k]? with | some t => decide (t.id = id) | none => false
noncomputable def bsdR (l : {l : List En // l.length ≤ 9001}) (id : Int) : AV := .tup [.int .i64 (bsD l.1 id : Nat), .bool (hasD l.1 (bsD l.1 id) id)]
noncomputable def bsdS : SpecFn := mkS (fun p : {l : List En // l.length ≤ 9001} × Int => [.list 41 (p.1.1.map enC), .int .u64 p.2, .fn (.func 217) [] []]) fun p => (bsdR p.1 p.2, [])
theorem bsd_eq (l : List En) (lh : l.length ≤ 9001) (id : Int) : bsdS [.list 41 (l.map enC), .int .u64 id, .fn (.func 217) [] []] [] = some (bsdR ((⟨l, lh⟩ : {l : List En // l.length ≤ 9001})) (id), []) :=
  mkS_eq (enc := fun p : {l : List En // l.length ≤ 9001} × Int => [.list 41 (p.1.1.map enC), .int .u64 p.2, .fn (.func 217) [] []]) (res := fun p => (bsdR p.1 p.2, [])) (fun x y h => by
    obtain ⟨a0, a1⟩ := x
    obtain ⟨b0, b1⟩ := y
    obtain ⟨h0, h⟩ := List.cons.inj h
    obtain ⟨h1, h⟩ := List.cons.inj h
    obtain ⟨h2, h⟩ := List.cons.inj h
    have e0 := AVel h0
    subst e0
    have e1 := AVi h1
    subst e1
    rfl) ((⟨l, lh⟩ : {l : List En // l.length ≤ 9001}), id)
noncomputable def bsd_ok_specs : NL Spec := [(217, ⟨1, sr1S⟩)]
theorem bsd_ok_specs_ok : ∀ p ∈ bsd_ok_specs, FnC Try.prog p.1 p.2.fn := by
  simp only [bsd_ok_specs, List.mem_cons, List.not_mem_nil, or_false]
  rintro p rfl
  · exact sr1_ok
attribute [local simp] bsd_ok_specs sr1_eq
theorem bsd_ok : FnC Try.prog 216 bsdS := by
  refine FnC.walk 216 (fn := Try.f216) Try.func216 rfl (by kernel_rfl) fun p => ?_
  obtain ⟨⟨l, lh⟩, id⟩ := p
  change W _ (Ret _ _ (bsdR ((⟨l, lh⟩ : {l : List En // l.length ≤ 9001})) (id)) []) _ _ ⟨49, [(0, .list 41 (l.map enC)), (1, .int .u64 id), (2, .fn (.func 217) [] [])], []⟩
  repeat' (first | refine ZV ?_ | refine ZB tm bsd_ok_specs_ok ?_ | refine ZH (fun hb => ?_) (fun hb => ?_) | refine ZJ (by conv => lhs; simp [lh]) ?_ | refine ZA (fun hb => ?_) (fun hb => ?_))
  have cap : l.length ≤ 9223372036854775807 := by omega
  obtain ⟨B, hE⟩ : ∃ B, bsD l id = B := ⟨_, rfl⟩
  have hB := hE
  unfold bsD at hB
  generalize hC : (fun (k : Nat) => match l[k]? with | some (t : En) => decide (t.id < id) | none => false) = C at hB
  refine W.loop rfl (ι := { q : Nat × Nat × NL ABlk // q.1 ≤ q.2.1 ∧ q.2.1 ≤ l.length ∧ bsF C q.1 q.2.1 = B })
    (fun q => ⟨49, [(0, .list 41 (l.map enC)), (1, .int .u64 id), (2, .fn (.func 217) [] []), (8, .int .i64 l.length), (9, .int .i64 (q.1.1 : Nat)), (10, .int .i64 (q.1.2.1 : Nat))], q.1.2.2⟩) (fun q => q.1.2.1 - q.1.1)
    ⟨(0, l.length, []), by simp, by simp, hB⟩ (AS.le_of rfl ⟨rfl, rfl, rfl, rfl, rfl, rfl, trivial⟩ (fun _ => rfl)) ?_
  rintro ⟨⟨lo, hi, h⟩, h1, h2, h3⟩
  dsimp only at h1 h2 h3 ⊢
  by_cases hlt : lo < hi
  · rw [bsF_lt hlt] at h3
    have q1 : (lo : Int) < hi := by omega
    obtain ⟨m, hm⟩ : ∃ m, (lo + hi) / 2 = m := ⟨_, rfl⟩
    rw [hm] at h3
    obtain ⟨t, ht⟩ := get_lt (l := l) (i := m) (by omega)
    have hg : (l.map enC)[m]? = some (enC t) := by rw [List.getElem?_map, ht]; rfl
    have q2 : ¬ l.length ≤ m := by omega
    have hw : IntKind.i64.wrap ((m : Int) + 1) = ((m + 1 : Nat) : Int) := w64 (by omega) (by omega)
    have hcm : C m = decide (t.id < id) := by rw [← hC]; simp only [ht]
    rw [hcm] at h3
    clear hlt
    have hh := half (lo := lo) (hi := hi) (by omega)
    rw [hm] at hh
    obtain ⟨a1, a2, r, o, w, q⟩ := t
    simp only [enC] at hg
    repeat' (first | refine ZV ?_ | refine ZB tm bsd_ok_specs_ok ?_ | refine ZH (fun hb => ?_) (fun hb => ?_) | refine ZJ (by conv => lhs; simp [q1, hh, q2, hg, sr1R, hw]) ?_ | refine ZA (fun hb => ?_) (fun hb => ?_))
    · have hb' : a1 < id := by simpa using hb
      rw [if_pos (by simpa using hb')] at h3
      exact ⟨⟨(m + 1, hi, _), by dsimp only; omega, h2, h3⟩, by dsimp only; omega, AS.le_of rfl ⟨rfl, rfl, rfl, rfl, rfl, rfl, trivial⟩ (fun _ => rfl)⟩
    · have hb' : ¬ a1 < id := by simpa using hb
      rw [if_neg (by simpa using hb')] at h3
      exact ⟨⟨(lo, m, _), by dsimp only; omega, by dsimp only; omega, h3⟩, by dsimp only; omega, AS.le_of rfl ⟨rfl, rfl, rfl, rfl, rfl, rfl, trivial⟩ (fun _ => rfl)⟩
  · rw [bsF_ge hlt] at h3
    subst h3
    have q1 : ¬ (lo : Int) < hi := by omega
    have e1 : lo = hi := by omega
    subst e1
    by_cases hz : lo < l.length
    · obtain ⟨t, ht⟩ := get_lt (l := l) (i := lo) (by omega)
      have hg : (l.map enC)[lo]? = some (enC t) := by rw [List.getElem?_map, ht]; rfl
      have q2 : ¬ l.length ≤ lo := by omega
      have q3 : (lo : Int) < l.length := by omega
      obtain ⟨a1, a2, r, o, w, q⟩ := t
      simp only [enC] at hg
      clear hlt hz
      repeat' (first | refine ZV ?_ | refine ZB tm bsd_ok_specs_ok ?_ | refine ZH (fun hb => ?_) (fun hb => ?_) | refine ZJ (by conv => lhs; simp [q1, q2, q3, hg, sr1R]) ?_ | refine ZA (fun hb => ?_) (fun hb => ?_))
      all_goals (first | refine Ret.dataE rfl (by conv => lhs; simp) (by conv => lhs; simp) (by first | rfl | simp [inlT, inlV]) ?_ | refine RetNf.dataE rfl (by conv => lhs; simp) (by conv => lhs; simp) (by first | rfl | simp [inlT, inlV]) ?_)
      all_goals (first | rfl | (simp [bsdR, hE, hasD, ht]; done) | (simp_all [bsdR, hE, hasD, ht]; done) | (simp_all [bsdR, hE, hasD, ht]; omega))
    · have q3 : ¬ (lo : Int) < l.length := by omega
      have q4 : l[lo]? = none := by simp; omega
      clear hlt hz
      repeat' (first | refine ZV ?_ | refine ZB tm bsd_ok_specs_ok ?_ | refine ZH (fun hb => ?_) (fun hb => ?_) | refine ZJ (by conv => lhs; simp [q1, q3]) ?_ | refine ZA (fun hb => ?_) (fun hb => ?_))
      all_goals (first | refine Ret.dataE rfl (by conv => lhs; simp) (by conv => lhs; simp) (by first | rfl | simp [inlT, inlV]) ?_ | refine RetNf.dataE rfl (by conv => lhs; simp) (by conv => lhs; simp) (by first | rfl | simp [inlT, inlV]) ?_)
      all_goals (first | rfl | (simp [bsdR, hE, hasD, q4]; done) | (simp_all [bsdR, hE, hasD, q4]; done) | (simp_all [bsdR, hE, hasD, q4]; omega))
noncomputable def seaR (l : {l : List En // l.length ≤ 9001}) (id : Int) : AV := .tup [.int .i64 (bsD l.1 id : Nat), .bool (hasD l.1 (bsD l.1 id) id)]
noncomputable def seaS : SpecFn := mkS (fun p : {l : List En // l.length ≤ 9001} × Int => [.list 41 (p.1.1.map enC), .int .u64 p.2]) fun p => (seaR p.1 p.2, [])
theorem sea_eq (l : List En) (lh : l.length ≤ 9001) (id : Int) : seaS [.list 41 (l.map enC), .int .u64 id] [] = some (seaR ((⟨l, lh⟩ : {l : List En // l.length ≤ 9001})) (id), []) :=
  mkS_eq (enc := fun p : {l : List En // l.length ≤ 9001} × Int => [.list 41 (p.1.1.map enC), .int .u64 p.2]) (res := fun p => (seaR p.1 p.2, [])) (fun x y h => by
    obtain ⟨a0, a1⟩ := x
    obtain ⟨b0, b1⟩ := y
    obtain ⟨h0, h⟩ := List.cons.inj h
    obtain ⟨h1, h⟩ := List.cons.inj h
    have e0 := AVel h0
    subst e0
    have e1 := AVi h1
    subst e1
    rfl) ((⟨l, lh⟩ : {l : List En // l.length ≤ 9001}), id)
noncomputable def sea_ok_specs : NL Spec := [(216, ⟨0, bsdS⟩), (217, ⟨1, sr1S⟩)]
theorem sea_ok_specs_ok : ∀ p ∈ sea_ok_specs, FnC Try.prog p.1 p.2.fn := by
  simp only [sea_ok_specs, List.mem_cons, List.not_mem_nil, or_false]
  rintro p (rfl | rfl)
  · exact bsd_ok
  · exact sr1_ok
attribute [local simp] sea_ok_specs bsd_eq sr1_eq
theorem sea_ok : FnC Try.prog 175 seaS := by
  refine FnC.walk 175 (fn := Try.f175) Try.func175 rfl (by kernel_rfl) fun p => ?_
  obtain ⟨⟨l, lh⟩, id⟩ := p
  change W _ (Ret _ _ (seaR ((⟨l, lh⟩ : {l : List En // l.length ≤ 9001})) (id)) []) _ _ ⟨11, [(0, .list 41 (l.map enC)), (1, .int .u64 id)], []⟩
  have cb := bsd_eq l lh id
  repeat' (first | refine ZV ?_ | refine ZB tm sea_ok_specs_ok ?_ | refine ZH (fun hb => ?_) (fun hb => ?_) | refine ZJ (by conv => lhs; simp [cb, bsdR]) ?_ | refine ZA (fun hb => ?_) (fun hb => ?_))
  all_goals (first | refine Ret.dataE rfl (by conv => lhs; simp) (by conv => lhs; simp) (by first | rfl | simp [inlT, inlV]) ?_ | refine RetNf.dataE rfl (by conv => lhs; simp) (by conv => lhs; simp) (by first | rfl | simp [inlT, inlV]) ?_)
  all_goals (first | rfl | (simp [seaR]; done) | (simp_all [seaR]; done) | (simp_all [seaR]; omega))
/-- An entry put in its place. -/
def putD (e : En) (l : List En) : List En := if hasD l (bsD l e.id) e.id then l.set (bsD l e.id) e else l.take (bsD l e.id) ++ e :: l.drop (bsD l e.id)
theorem bsF_bd (c : Nat → Bool) : ∀ (d lo hi : Nat), hi - lo = d → lo ≤ hi → lo ≤ bsF c lo hi ∧ bsF c lo hi ≤ hi := by
  intro d
  induction d using Nat.strongRecOn with
  | ind d ih =>
    intro lo hi hd hl
    by_cases h : lo < hi
    · rw [bsF_lt h]
      split
      · have := ih (hi - ((lo + hi) / 2 + 1)) (by omega) ((lo + hi) / 2 + 1) hi rfl (by omega)
        omega
      · have := ih ((lo + hi) / 2 - lo) (by omega) lo ((lo + hi) / 2) rfl (by omega)
        omega
    · rw [bsF_ge h]
      omega
theorem bsD_le (l : List En) (id : Int) : bsD l id ≤ l.length := (bsF_bd _ _ 0 l.length rfl (by omega)).2
theorem insD_eq (elem size bytes n i : Nat) (rows : List (List AV)) (z : List AV) (hn : n = rows.length) (h1 : n ≤ 1000000) (hb : (n + 1) * bytes ≤ 140737488355328) (hi : i ≤ n) : insertC elem size bytes [.sl 0 0 0 n, .int .i64 (i : Nat), .sl 1 0 0 1] [{ gen := 0, kind := 2, elem := elem, size := size, inl := true, rows }, { gen := 0, kind := 2, elem := elem, size := size, inl := true, rows := [z] }] = some (.sl 0 1 0 (n + 1), [{ gen := 1, kind := 2, elem := elem, size := size, inl := true, rows := rows.take i ++ [z] ++ rows.drop i }, { gen := 0, kind := 2, elem := elem, size := size, inl := true, rows := [z] }]) := by
  unfold insertC
  simp only [okB, beq_self_eq_true, Bool.and_self, true_and, Int.toNat_natCast, rowB]
  rw [if_pos ⟨hn, rfl, hb, h1, by omega, by omega⟩]
end Go.Abs.Na
namespace Go.Abs.Na
open Go Go.Proofs Go.Abs
set_option maxRecDepth 100000
set_option maxHeartbeats 4000000
set_option linter.unusedSimpArgs false
set_option linter.unusedVariables false
attribute [local simp] instA slice3A slice3C
attribute [-simp] mkv
attribute [local simp] mkv_hd hdA_cons hdA_ob hdA_ob'
def rD (n : Int) (l : List En) (ms : List Msg) (e : Int) : AV := .tup [.agg [.int .i64 n, .list 41 (l.map enC)], .list 45 (ms.map Msg.v), .int .i64 e]
theorem enC_nrm (e : En) : nrmL Try.prog (leafs Try.prog 117) (enC e) = enC e := by
  rw [enLeafs]
  simp only [enC, nrmL]
  rw [nrmL_append _ _ _ _ e.obj.len'.symm, e.obj.nrmL]
  simp only [nrmL, nrmV, uI, uA, nrmRows_map iC_nrm, nrmRows_map askC_nrm]
theorem uE : Try.prog.underlying 93 = some (.slice 117) := by kernel_rfl
theorem uM : Try.prog.underlying 87 = some (.slice 50) := by kernel_rfl
theorem cE : Try.prog.cellsOf 117 = 41 := by kernel_rfl
theorem cM : Try.prog.cellsOf 50 = 45 := by kernel_rfl
theorem drLeafs : leafs Try.prog 95 = [3, 93] := lf95
theorem rD_nrm (n : Int) (l : List En) (ms : List Msg) (e : Int) : nrmR Try.prog [95, 87, 51] (rD n l ms e) = rD n l ms e := by
  simp only [rD, nrmR, nrmL, nrmV, drLeafs, uE, uM, nrmRows_map enC_nrm, nrmRows_map msg_nrm]
theorem rD_nrm0 (e : Int) : nrmR Try.prog [95, 87, 51] (.tup [.agg [.int .i64 0, .nils], .nils, .int .i64 e]) = rD 0 [] [] e := by
  simp only [rD, nrmR, nrmL, nrmV, drLeafs, uE, uM, cE, cM, List.map_nil]
theorem listR_app : ∀ {a : List AV} (_ : a.all AV.isInl = true) (l : List AV) (H : NL ABlk), listR frz0R (a ++ l) H = mapO (fun r => a ++ r) (listR frz0R l H)
  | [], _, l, H => by
    show listR frz0R l H = _
    cases listR frz0R l H with
    | none => rfl
    | some o => rfl
  | x :: a, h, l, H => by
    simp only [List.all_cons, Bool.and_eq_true] at h
    rw [List.cons_append, listR, frz0R_inl h.1, nxt_some, listR_app h.2, nxt_map, ← nxt_ret]
    rfl
@[local simp] theorem listR_ob (o : Ob) (l : List AV) (H : NL ABlk) : listR frz0R (o.cells ++ l) H = mapO (fun r => o.cells ++ r) (listR frz0R l H) := listR_app o.isInl l H
structure Fin where
  d : Drs
  e : En
  h1 : e.readers.length + e.queue.length ≤ 9000
  h2 : e.waiting.length ≤ 9000
  h3 : Dir.Asc e.readers
noncomputable def finR (x : Fin) : AV × List ABlk := (rD x.d.node (putD (Dir.goOn zOb x.e).2 x.d.ents) (goM x.e x.d.node) 0, [sesB (Dir.goOn zOb x.e).2 x.d.node (.list 45 ((goM x.e x.d.node).map Msg.v))])
noncomputable def finS : SpecFn := mkS2 (fun x : Fin => ([.ptr 0 0 0 0, x.d.v], [sesB x.e x.d.node .nils])) finR
theorem finS_eq (x : Fin) : finS [.ptr 0 0 0 0, x.d.v] [sesB x.e x.d.node .nils] = some (finR x) :=
  mkS2_eq (enc := fun x : Fin => ([AV.ptr 0 0 0 0, x.d.v], [sesB x.e x.d.node .nils])) (res := finR) (fun x y h => by
    obtain ⟨d, e, h1, h2, h3⟩ := x
    obtain ⟨d', e', h1', h2', h3'⟩ := y
    simp only [sesB, Prod.mk.injEq, List.cons.injEq, ABlk.mk.injEq, true_and, and_true] at h
    cases Drs.v_inj h.1
    obtain ⟨rfl, _⟩ := sesC_inj h.2
    rfl) x
theorem goOn_id (e : En) : (Dir.goOn zOb e).2.id = e.id := by
  unfold Dir.goOn
  split <;> rfl
noncomputable def fin_specs : NL Spec := [(174, ⟨3, goS⟩), (116, ⟨1, ownS⟩), (175, ⟨0, seaS⟩), (176, ⟨3, insertC 117 41 552⟩)]
theorem fin_specs_ok : ∀ p ∈ fin_specs, FnC Try.prog p.1 p.2.fn := by
  simp only [fin_specs, List.mem_cons, List.not_mem_nil, or_false]
  rintro p (rfl | rfl | rfl | rfl)
  · exact go_ok
  · exact own_ok
  · exact sea_ok
  · exact insert176_ok
attribute [local simp] fin_specs
theorem fin_ok : FnC Try.prog 108 finS := by
  refine FnC.walkBN 108 (fn := Try.f108) [95, 87, 51] Try.func108 rfl (by kernel_rfl) (fun x b hb => by simp at hb; rw [hb]; rfl) (fun x => ?_) (fun x => ⟨_, rD_nrm _ _ _ _⟩)
  obtain ⟨⟨nd, l, hl, he⟩, e, k1, k2, k3⟩ := x
  have c1 := goS_eq ⟨e, nd, k1, k2, k3⟩
  change W _ (RetBN _ _ _ 1 (rD nd (putD (Dir.goOn zOb e).2 l) (goM e nd) 0) [sesB (Dir.goOn zOb e).2 nd (.list 45 ((goM e nd).map Msg.v))]) _ _ ⟨61, [(0, .ptr 0 0 0 0), (1, .agg [.int .i64 nd, .list 41 (l.map enC)])], [(0, { gen := 0, kind := 2, elem := 162, size := 43, inl := false, rows := [.int .u64 e.id :: .int .i64 e.owner :: .list 1 (e.readers.map iC) :: (e.obj.cells ++ [.list 1 (e.waiting.map iC), .list 2 (e.queue.map askC), .int .i64 nd, .nils])] })]⟩
  unfold goR at c1
  dsimp only at c1
  generalize goM e nd = ms at *
  generalize Dir.goOn zOb e = G at *
  obtain ⟨m0, e'⟩ := G
  dsimp only at c1 ⊢
  simp only [sesB, sesC, msgB] at c1 ⊢
  have cap : l.length ≤ 9223372036854775807 := by omega
  have tkm : List.take ms.length (ms.map Msg.v) = ms.map Msg.v := List.take_of_length_le (by simp)
  repeat' (first | refine ZV ?_ | refine ZB (id := 0) tm fin_specs_ok ?_ | refine ZB (id := 1) tm fin_specs_ok ?_ | refine ZH (fun hb => ?_) (fun hb => ?_) | refine ZJ (by conv => lhs; simp [c1]) ?_ | refine ZA (fun hb => ?_) (fun hb => ?_))
  refine W.frzC 0 0 42 rfl rfl rfl rfl (by simp; rfl) (by conv => lhs; simp [frqT, frqV, frq1, frz1, AP.run, tkm]) (by rfl) ?_
  repeat' (first | refine ZV ?_ | refine ZB (id := 2) tm fin_specs_ok ?_ | refine ZB (id := 3) tm fin_specs_ok ?_ | refine ZH (fun hb => ?_) (fun hb => ?_) | refine ZJ (by conv => lhs; simp [cap]) ?_ | refine ZA (fun hb => ?_) (fun hb => ?_))
  refine W.phantom (t := 7) 416 117 41 true (by rfl) (by rfl) (by decide) ?_
  refine W.loop rfl (ι := { x : Nat × Nat × NL ABlk // x.1 ≤ l.length ∧ lk x.2.2 0 = some { gen := 0, kind := 2, elem := 162, size := 43, inl := false, rows := [.int .u64 e'.id :: .int .i64 e'.owner :: .list 1 (e'.readers.map iC) :: (e'.obj.cells ++ [.list 1 (e'.waiting.map iC), .list 2 (e'.queue.map askC), .int .i64 nd, .list 45 (ms.map Msg.v)])] } ∧ lk x.2.2 64 = some { gen := 1, kind := 2, elem := 95, size := 2, inl := false, rows := [[.int .i64 nd, .list 41 (l.map enC)]] } ∧ lk x.2.2 80 = some { gen := 1, kind := 2, elem := 95, size := 2, inl := false, rows := [[.int .i64 0, .nils]] } ∧ lk x.2.2 416 = some { gen := x.2.1, kind := 2, elem := 117, size := 41, inl := true, rows := (l.take x.1).map enC } })
    (fun x => ⟨61, [(0, .ptr 0 0 0 0), (3, .ptr 64 1 0 0), (4, .ptr 80 1 0 0), (7, .sl 416 x.1.2.1 0 x.1.1), (15, .list 41 (l.map enC)), (16, .int .i64 l.length), (17, .int .i64 (x.1.1 : Nat))], x.1.2.2⟩) (fun x => l.length - x.1.1)
    ⟨(0, 0, _), by simp, by simp [lk, lk_st], by simp [lk, lk_st], by simp [lk, lk_st], by simp [lk, lk_st]⟩ (AS.le_of rfl ⟨rfl, rfl, rfl, rfl, rfl, rfl, rfl, trivial⟩ (fun _ => rfl)) ?_
  rintro ⟨⟨k, g, h⟩, hk, g0, g1, g2, g3⟩
  dsimp only at hk g0 g1 g2 g3 ⊢
  by_cases hk2 : k = l.length
  · subst hk2
    rw [List.take_length] at g3
    have hil := bsD_le l e'.id
    have cs := sea_eq l (by omega) e'.id
    simp only [seaR] at cs
    unfold putD
    generalize bsD l e'.id = i at *
    have tl : List.take l.length (l.map enC) = l.map enC := List.take_of_length_le (by simp)
    cases hh : hasD l i e'.id with
    | true =>
      rw [hh] at cs
      have hi : i < l.length := by
        unfold hasD at hh
        split at hh
        · rename_i h0; exact (List.getElem?_eq_some_iff.1 h0).1
        · cases hh
      rw [if_pos rfl]
      obtain ⟨y, hy⟩ := get_lt hi
      have hm : (l.map enC)[i]? = some (enC y) := by rw [List.getElem?_map, hy]; rfl
      simp only [enC] at hm
      have q1 : (i : Int) < l.length := by omega
      have q2 : ¬ l.length ≤ i := by omega
      have hst : (l.map enC).set i (.int .u64 e'.id :: .int .i64 e'.owner :: .list 1 (e'.readers.map iC) :: (e'.obj.cells ++ [.list 1 (e'.waiting.map iC), .list 2 (e'.queue.map askC)])) = (l.set i e').map enC := by rw [List.map_set]; rfl
      have tl2 : List.take l.length ((l.set i e').map enC) = (l.set i e').map enC := List.take_of_length_le (by simp)
      have l2 : (l.set i e').length = l.length := by simp
      generalize l.set i e' = L at *
      repeat' (first | refine ZV ?_ | refine ZB tm fin_specs_ok ?_ | refine ZH (fun hb => ?_) (fun hb => ?_) | refine ZJ (by conv => lhs; simp [g0, g1, g2, g3, cs, tl, hm, q1, q2, cap, hst]) ?_ | refine ZA (fun hb => ?_) (fun hb => ?_))
      refine RetBN.dataE true [0] rfl (by conv => lhs; simp [lk_st, g1]) (by conv => lhs; simp [frqT, frqV, frqVs, frqL, frq1, lk_st, tl2, l2]) (by decide) (by rintro j hj; rcases (show j = 0 by omega) with rfl; exact ⟨rfl, by simp [lk_st, g0]⟩) (by simp [lk_st, g0]) (by conv => lhs; simp) ?_
      exact rD_nrm nd L ms 0
    | false =>
      rw [hh] at cs
      rw [if_neg (by simp)]
      have y3 : l.length ≤ 1000000 := by omega
      have y4 : (l.length + 1) * 552 ≤ 140737488355328 := by omega
      have ci := insD_eq 117 41 552 l.length i (l.map enC) (enC e') (by simp) y3 y4 hil
      simp only [enC] at ci
      have hst : (l.map enC).take i ++ (.int .u64 e'.id :: .int .i64 e'.owner :: .list 1 (e'.readers.map iC) :: (e'.obj.cells ++ [.list 1 (e'.waiting.map iC), .list 2 (e'.queue.map askC)])) :: (l.map enC).drop i = (l.take i ++ e' :: l.drop i).map enC := by rw [List.map_append, List.map_cons, List.map_take, List.map_drop]; rfl
      have l2 : (l.take i ++ e' :: l.drop i).length = l.length + 1 := by simp; omega
      generalize l.take i ++ e' :: l.drop i = L at *
      have tl2 : List.take (l.length + 1) (L.map enC) = L.map enC := List.take_of_length_le (by simp; omega)
      repeat' (first | refine ZV ?_ | refine ZB tm fin_specs_ok ?_ | refine ZH (fun hb => ?_) (fun hb => ?_) | refine ZJ (by conv => lhs; simp [g0, g1, g2, g3, cs, tl, ci, cap, m1, hst]) ?_ | refine ZA (fun hb => ?_) (fun hb => ?_))
      refine RetBN.dataE true [0] rfl (by conv => lhs; simp [lk_st, g1]) (by conv => lhs; simp [frqT, frqV, frqVs, frqL, frq1, lk_st, tl2, l2]) (by decide) (by rintro j hj; rcases (show j = 0 by omega) with rfl; exact ⟨rfl, by simp [lk_st, g0]⟩) (by simp [lk_st, g0]) (by conv => lhs; simp) ?_
      exact rD_nrm nd L ms 0
  · have hlt : k < l.length := by omega
    obtain ⟨y, hy⟩ := get_lt hlt
    have hm : (l.map enC)[k]? = some (enC y) := by rw [List.getElem?_map, hy]; rfl
    have co := ownS_eq y (he y (List.mem_of_getElem? hy))
    simp only [enC, enX, ixiB, ixaB] at hm co
    have q1 : (k : Int) < l.length := by omega
    have q2 : ¬ l.length ≤ k := by omega
    have hw : IntKind.i64.wrap ((k : Int) + 1) = ((k + 1 : Nat) : Int) := w64 (by omega) (by omega)
    have y1 : k ≤ maxLen := by simp only [maxLen]; omega
    have y2 : (k + 1) * 552 ≤ 140737488355328 := by omega
    have y3 : k + 1 ≤ maxLen := by simp only [maxLen]; omega
    have y4 : k ≤ 9223372036854775807 := by omega
    have ta : (l.take (k + 1)).map enC = (l.take k).map enC ++ [enC y] := by rw [List.take_add_one, hy, Option.toList_some, List.map_append]; rfl
    have tl : ((l.take k).map enC).length = k := by simp; omega
    obtain ⟨A, hA⟩ : ∃ A, (l.take k).map enC = A := ⟨_, rfl⟩
    rw [hA] at ta tl g3
    have tA : List.take k A = A := List.take_of_length_le (by omega)
    have fA : firstRows k A = A := first_all tl
    have t1 : List.take y.readers.length (y.readers.map iC) = y.readers.map iC := List.take_of_length_le (by simp)
    have t2 : List.take y.waiting.length (y.waiting.map iC) = y.waiting.map iC := List.take_of_length_le (by simp)
    have t3 : List.take y.queue.length (y.queue.map askC) = y.queue.map askC := List.take_of_length_le (by simp)
    clear hlt hk2
    repeat' (first | refine ZV ?_ | refine ZB tm fin_specs_ok ?_ | refine ZH (fun hb => ?_) (fun hb => ?_) | refine ZJ (by conv => lhs; simp [g0, g1, g2, g3, hm, co, q1, q2, hw, y1, y2, y3, y4, tA, fA, tl, t1, t2, t3, m1]) ?_ | refine ZA (fun hb => ?_) (fun hb => ?_))
    exact ⟨⟨(k + 1, g + 1, _), by dsimp only; omega, by simp [lk_st, g0], by simp [lk_st, g1], by simp [lk_st, g2], by simp [lk_st, ta]⟩, by dsimp only; omega, AS.le_of rfl ⟨rfl, rfl, rfl, rfl, rfl, rfl, rfl, trivial⟩ (fun _ => rfl)⟩
end Go.Abs.Na
namespace Go.Abs.Na
open Go Go.Proofs Go.Abs
set_option maxRecDepth 100000
set_option maxHeartbeats 4000000
set_option linter.unusedSimpArgs false
set_option linter.unusedVariables false
attribute [local simp] instA
attribute [-simp] mkv
attribute [local simp] mkv_hd hdA_cons hdA_ob hdA_ob'
/-! ### Failing -/
noncomputable def flS : SpecFn := mkS (fun e : Int => [.int .i64 e]) fun e => (rD 0 [] [] e, [])
theorem flS_eq (e : Int) : flS [.int .i64 e] [] = some (rD 0 [] [] e, []) :=
  mkS_eq (enc := fun e : Int => [AV.int .i64 e]) (res := fun e => (rD 0 [] [] e, [])) (fun x y h => by
    simp only [List.cons.injEq, AV.int.injEq, true_and, and_true] at h
    rw [h]) e
theorem af_ok : FnC Try.prog 102 flS := by
  refine FnC.walkN 102 (fn := Try.f102) [95, 87, 51] Try.func102 rfl (by kernel_rfl) (fun e => ?_) (fun e => ⟨_, rD_nrm _ _ _ _⟩)
  change W _ (RetNf _ _ _ (rD 0 [] [] e) []) _ _ ⟨7, [(0, .int .i64 e)], []⟩
  repeat' (first | refine ZV ?_ | refine ZB tm no_specs ?_ | refine ZH (fun hb => ?_) (fun hb => ?_) | refine ZJ (by conv => lhs; simp) ?_ | refine ZA (fun hb => ?_) (fun hb => ?_))
  exact RetNf.dataE rfl (by conv => lhs; simp) (by conv => lhs; simp) (by first | rfl | simp [inlT, inlV]) (rD_nrm0 e)
/-! ### Whether a node has asked -/
noncomputable def a2S (n : Int) : SpecFn := mkS2 (fun p : Int × Int => ([.agg (askC p), .ptr 0 0 0 0], [{ gen := 0, kind := 2, elem := 3, size := 1, inl := false, rows := [iC n] }])) fun p => (.bool (p.1 == n), [{ gen := 0, kind := 2, elem := 3, size := 1, inl := false, rows := [iC n] }])
theorem a2S_eq (n : Int) (p : Int × Int) : a2S n [.agg (askC p), .ptr 0 0 0 0] [{ gen := 0, kind := 2, elem := 3, size := 1, inl := false, rows := [iC n] }] = some (.bool (p.1 == n), [{ gen := 0, kind := 2, elem := 3, size := 1, inl := false, rows := [iC n] }]) :=
  mkS2_eq (enc := fun p : Int × Int => ([AV.agg (askC p), .ptr 0 0 0 0], [{ gen := 0, kind := 2, elem := 3, size := 1, inl := false, rows := [iC n] }])) (res := fun p => (.bool (p.1 == n), [{ gen := 0, kind := 2, elem := 3, size := 1, inl := false, rows := [iC n] }])) (fun x y h => by
    simp only [askC, Prod.mk.injEq, List.cons.injEq, AV.agg.injEq, AV.int.injEq, true_and, and_true] at h
    rw [show x = y from Prod.ext h.1 h.2]) p
theorem a2_ok (n : Int) : FnC Try.prog 105 (a2S n) := by
  refine FnC.walkB 105 (fn := Try.f105) Try.func105 rfl (by kernel_rfl) (fun x b hb => by simp at hb; rw [hb]) fun p => ?_
  obtain ⟨a, m⟩ := p
  change W _ (RetB _ _ 1 (.bool (a == n)) [{ gen := 0, kind := 2, elem := 3, size := 1, inl := false, rows := [[.int .i64 n]] }]) _ _ ⟨8, [(0, .agg [.int .i64 a, .int .i64 m]), (1, .ptr 0 0 0 0)], [(0, { gen := 0, kind := 2, elem := 3, size := 1, inl := false, rows := [[.int .i64 n]] })]⟩
  repeat' (first | refine ZV ?_ | refine ZB tm no_specs ?_ | refine ZH (fun hb => ?_) (fun hb => ?_) | refine ZJ (by conv => lhs; simp) ?_ | refine ZA (fun hb => ?_) (fun hb => ?_))
  exact RetB.raw [0] rfl (by conv => lhs; simp) (by decide) (by simp) (by simp [renL]) (by simp)
noncomputable def a2V (n : Int) : ixaW := ⟨105, by simp, by simp, fun p => p.1 == n, 3, 1, iC n, by simp [iC, refsL, AV.refs], by simp [iC, renL, AV.ren], a2S n, a2_ok n, a2S_eq n⟩
/-! ### What is known of a valid directory's entries -/
theorem fineB_asc {e : En} (h : fineB e = true) : ascN e.readers = true ∧ ascN e.waiting = true := by
  unfold fineB at h
  simp only [Bool.and_eq_true] at h
  exact ⟨h.2.2.2.1, h.2.2.2.2.1⟩
theorem asc_len {l : List Int} (h : ascN l = true) : l.length ≤ 128 := by
  obtain ⟨h1, h2⟩ := ascN_iff.1 h
  have hn : l.Nodup := h2.imp fun h => by omega
  have := Dir.nodup_len (S := (List.range 128).map Int.ofNat) hn (fun x hx => by
    have hx := h1 x hx
    simp only [okN, Bool.and_eq_true, decide_eq_true_eq] at hx
    rw [List.mem_map]
    exact ⟨x.toNat, List.mem_range.2 (by omega), by simp; omega⟩)
  simpa using this
theorem validD_fine {nd : Int} {l : List En} (h : validD nd l = true) : ∀ e ∈ l, fineB e = true := fun e he => by
  obtain ⟨k, hk, rfl⟩ := List.mem_iff_getElem.1 he
  unfold validD at h
  rw [Bool.and_eq_true, List.all_eq_true] at h
  have := h.1 k (List.mem_range.2 hk)
  unfold goodD at this
  rw [List.getElem?_eq_getElem hk] at this
  simp only [Bool.and_eq_true] at this
  exact this.1
theorem fndD_ok {nd : Int} {l : List En} (hl : ∀ e ∈ l, okE e) (h : validD nd l = true) (id : Int) : okE (fndD id l) ∧ Dir.Asc (fndD id l).readers ∧ (fndD id l).readers.length ≤ 128 ∧ (fndD id l).waiting.length ≤ 128 := by
  unfold fndD
  cases hf : l.find? (fun e => e.id == id) with
  | none => exact ⟨⟨Nat.zero_le _, Nat.zero_le _, Nat.zero_le _⟩, List.Pairwise.nil, Nat.zero_le _, Nat.zero_le _⟩
  | some e =>
    have hm := List.mem_of_find?_eq_some hf
    obtain ⟨a1, a2⟩ := fineB_asc (validD_fine h e hm)
    exact ⟨hl e hm, (ascN_iff.1 a1).2, asc_len a1, asc_len a2⟩
/-! ### Asking -/
noncomputable def askL (d : Drs) (id n m : Int) : Int × List En × List Msg × Int :=
  if validD d.node d.ents = false then (0, [], [], 1) else if (id == 0 || (!okN n || !okM m)) = true then (0, [], [], 2) else
    let e := fndD id d.ents
    if (e.owner == n || ((m == 1 && decide (n ∈ e.readers)) || e.queue.any fun p => p.1 == n)) = true then (0, [], [], 8) else
      let e1 : En := { e with queue := e.queue ++ [(n, m)] }
      (d.node, putD (Dir.goOn zOb e1).2 d.ents, goM e1 d.node, 0)
noncomputable def askS : SpecFn := mkS (fun d : Drs × Int × Int × Int => [d.1.v, .int .u64 d.2.1, .int .i64 d.2.2.1, .int .i64 d.2.2.2]) fun d => (rD (askL d.1 d.2.1 d.2.2.1 d.2.2.2).1 (askL d.1 d.2.1 d.2.2.1 d.2.2.2).2.1 (askL d.1 d.2.1 d.2.2.1 d.2.2.2).2.2.1 (askL d.1 d.2.1 d.2.2.1 d.2.2.2).2.2.2, [])
theorem askS_eq (d : Drs) (id n m : Int) : askS [d.v, .int .u64 id, .int .i64 n, .int .i64 m] [] = some (rD (askL d id n m).1 (askL d id n m).2.1 (askL d id n m).2.2.1 (askL d id n m).2.2.2, []) :=
  mkS_eq (enc := fun d : Drs × Int × Int × Int => [d.1.v, AV.int .u64 d.2.1, .int .i64 d.2.2.1, .int .i64 d.2.2.2]) (res := fun d => (rD (askL d.1 d.2.1 d.2.2.1 d.2.2.2).1 (askL d.1 d.2.1 d.2.2.1 d.2.2.2).2.1 (askL d.1 d.2.1 d.2.2.1 d.2.2.2).2.2.1 (askL d.1 d.2.1 d.2.2.1 d.2.2.2).2.2.2, [])) (fun x y h => by
    obtain ⟨a, b, c, e⟩ := x
    obtain ⟨a', b', c', e'⟩ := y
    simp only [List.cons.injEq, AV.int.injEq, true_and, and_true] at h
    obtain ⟨h, rfl, rfl, rfl⟩ := h
    cases Drs.v_inj h
    rfl) (d, id, n, m)
theorem ask_ok : FnC Try.prog 45 askS := by
  refine FnC.walkN 45 (fn := Try.f45) [95, 87, 51] Try.func45 rfl (by kernel_rfl) (fun x => ?_) (fun x => ⟨_, rD_nrm _ _ _ _⟩)
  obtain ⟨⟨nd, l, hl, he⟩, id, n, m⟩ := x
  obtain ⟨SD, hSD⟩ : ∃ S, S = ixac2 (a2V n) := ⟨_, rfl⟩
  have sp : ∀ x ∈ ([(48, ⟨1, vdS⟩), (102, ⟨1, flS⟩), (103, ⟨1, boS okN⟩), (104, ⟨1, boS okM⟩), (49, ⟨1, entS⟩), (106, ⟨0, conS⟩), (107, ⟨3, SD⟩), (108, ⟨3, finS⟩)] : NL Spec), FnC Try.prog x.1 x.2.fn := by
    simp only [List.mem_cons, List.not_mem_nil, or_false]
    rintro x (rfl | rfl | rfl | rfl | rfl | rfl | rfl | rfl)
    · exact vdp_ok
    · exact af_ok
    · exact nod_ok
    · exact mod_ok
    · exact ent_ok
    · exact con_ok
    · rw [hSD]; exact ixac2_ok _
    · exact fin_ok
  have cv := vdS_eq ⟨nd, l, hl, he⟩
  have cf := flS_eq
  have c1 := boS_eq okN n
  have c2 := boS_eq okM m
  have ce := entS_eq ⟨nd, l, hl, he⟩ id
  simp only [Drs.v, rD, List.map_nil] at cv cf ce
  change W _ (RetNf _ _ _ (rD (askL ⟨nd, l, hl, he⟩ id n m).1 (askL ⟨nd, l, hl, he⟩ id n m).2.1 (askL ⟨nd, l, hl, he⟩ id n m).2.2.1 (askL ⟨nd, l, hl, he⟩ id n m).2.2.2) []) _ _ ⟨101, [(0, .agg [.int .i64 nd, .list 41 (l.map enC)]), (1, .int .u64 id), (2, .int .i64 n), (3, .int .i64 m)], []⟩
  generalize hR : askL ⟨nd, l, hl, he⟩ id n m = R
  unfold askL at hR
  dsimp only at hR
  cases hv : validD nd l with
  | false =>
    rw [if_pos hv] at hR
    subst hR
    rw [hv] at cv
    repeat' (first | refine ZV ?_ | refine ZB tm sp ?_ | refine ZH (fun hb => ?_) (fun hb => ?_) | refine ZJ (by conv => lhs; simp [cv, cf]) ?_ | refine ZA (fun hb => ?_) (fun hb => ?_))
    refine RetNf.dataE rfl (by conv => lhs; simp) (by conv => lhs; simp) (by first | rfl | simp [inlT, inlV]) ?_
    exact rD_nrm 0 [] [] 1
  | true =>
    rw [if_neg (by simp [hv])] at hR
    rw [hv] at cv
    obtain ⟨oe, oa, o1, o2⟩ := fndD_ok he hv id
    generalize okN n = b1 at *
    generalize okM m = b2 at *
    generalize fndD id l = e at *
    obtain ⟨id', ow, rd, o, wt, q⟩ := e
    obtain ⟨-, -, o3⟩ := oe
    dsimp only at oa o1 o2 o3 ce hR
    simp only [enX, ixiB, ixaB] at ce
    have c3 := conS_eq rd n (by omega)
    have c4 : SD [.sl 0 0 0 q.length, .fn (.func 105) [] [.ptr 1 0 0 0]] [{ gen := 0, kind := 2, elem := 120, size := 2, inl := true, rows := q.map askC }, { gen := 0, kind := 2, elem := 3, size := 1, inl := false, rows := [[.int .i64 n]] }] = some (.bool (q.any fun p => p.1 == n), [{ gen := 0, kind := 2, elem := 120, size := 2, inl := true, rows := q.map askC }, { gen := 0, kind := 2, elem := 3, size := 1, inl := false, rows := [[.int .i64 n]] }]) := by rw [hSD]; exact ixac2_eq (a2V n) q (by omega)
    clear hSD
    have t1 : List.take rd.length (rd.map iC) = rd.map iC := List.take_of_length_le (by simp)
    have t2 : List.take wt.length (wt.map iC) = wt.map iC := List.take_of_length_le (by simp)
    have t3 : List.take q.length (q.map askC) = q.map askC := List.take_of_length_le (by simp)
    generalize hb3 : decide (n ∈ rd) = b3 at *
    generalize hb4 : (q.any fun p => p.1 == n) = b4 at *
    obtain ⟨Q, hQ⟩ : ∃ Q, q ++ [(n, m)] = Q := ⟨_, rfl⟩
    have hQl : Q.length = q.length + 1 := by rw [← hQ]; simp
    have hQm : q.map askC ++ [[.int .i64 n, .int .i64 m]] = Q.map askC := by rw [← hQ]; simp [askC]
    have cF := finS_eq ⟨⟨nd, l, hl, he⟩, ⟨id', ow, rd, o, wt, Q⟩, by dsimp only; omega, by dsimp only; omega, oa⟩
    unfold finR at cF
    simp only [Drs.v, sesB, sesC] at cF
    rw [hQ] at hR
    generalize goM ⟨id', ow, rd, o, wt, Q⟩ nd = ms at *
    generalize Dir.goOn zOb ⟨id', ow, rd, o, wt, Q⟩ = G at *
    obtain ⟨m0, e'⟩ := G
    dsimp only at cF hR
    generalize putD e' l = L at *
    simp only [rD] at cF
    have y1 : q.length ≤ maxLen := by simp only [maxLen]; omega
    have y2 : (q.length + 1) * 16 ≤ 140737488355328 := by omega
    have y3 : q.length + 1 ≤ maxLen := by simp only [maxLen]; omega
    have y4 : q.length ≤ 9223372036854775807 := by omega
    have fq : firstRows q.length (q.map askC) = q.map askC := first_all (by simp)
    have t4 : List.take (q.length + 1) (Q.map askC) = Q.map askC := List.take_of_length_le (by simp; omega)
    repeat' (first | refine ZV ?_ | refine ZB (id := 0) tm sp ?_ | refine ZB (id := 1) tm sp ?_ | refine ZB (id := 2) tm sp ?_ | refine ZB (id := 3) tm sp ?_ | refine ZB (id := 4) tm sp ?_ | refine ZB (id := 5) tm sp ?_ | refine ZB (id := 6) tm sp ?_ | refine ZB (id := 7) tm sp ?_ | refine ZB (id := 8) tm sp ?_ | refine ZB (id := 9) tm sp ?_ | refine ZB (id := 10) tm sp ?_ | refine ZH (fun hb => ?_) (fun hb => ?_) | refine ZJ (by conv => lhs; simp [cv, cf, c1, c2, ce, c3, c4, t1, m1, y1, y2, y3, y4, fq, t3, hQm]) ?_ | refine ZA (fun hb => ?_) (fun hb => ?_))
    all_goals try (refine RetNf.dataE rfl (by conv => lhs; simp) (by conv => lhs; simp) (by first | rfl | simp [inlT, inlV]) ?_)
    all_goals try (rw [if_pos (by simp [*])] at hR; subst hR; exact rD_nrm 0 [] [] 2)
    all_goals rw [if_neg (by simp_all)] at hR
    all_goals try (rw [if_pos (by simp [*])] at hR; subst hR; exact rD_nrm 0 [] [] 8)
    all_goals rw [if_neg (by simp_all)] at hR
    all_goals subst hR
    all_goals (
      refine W.frzC 736 0 2 rfl rfl rfl rfl (by simp; rfl) (by conv => lhs; simp [frqT, frqV, frq1, frz1, AP.run, t1]) (by rfl) ?_
      simp [st]
      refine W.frzC 736 0 39 rfl rfl rfl rfl (by simp; rfl) (by conv => lhs; simp [frqT, frqV, frq1, frz1, AP.run, t2]) (by rfl) ?_
      simp [st]
      refine W.frzC 736 0 40 rfl rfl rfl rfl (by simp; rfl) (by conv => lhs; simp [frqT, frqV, frq1, frz1, AP.run, t4, hQl]) (by rfl) ?_
      simp [st])
    all_goals (
      repeat' (first | refine ZV ?_ | refine ZB tm sp ?_ | refine ZH (fun hb => ?_) (fun hb => ?_) | refine ZJ (by conv => lhs; simp [cF]) ?_ | refine ZA (fun hb => ?_) (fun hb => ?_))
      refine RetNf.dataE rfl (by conv => lhs; simp) (by conv => lhs; simp) (by first | rfl | simp [inlT, inlV]) ?_
      exact rD_nrm nd L ms 0)
end Go.Abs.Na
namespace Go.Abs.Na
open Go Go.Proofs Go.Abs
set_option maxRecDepth 100000
set_option maxHeartbeats 4000000
set_option linter.unusedSimpArgs false
set_option linter.unusedVariables false
attribute [local simp] instA
attribute [-simp] mkv
attribute [local simp] mkv_hd hdA_cons hdA_ob hdA_ob'
theorem rf_ok : FnC Try.prog 109 flS := by
  refine FnC.walkN 109 (fn := Try.f109) [95, 87, 51] Try.func109 rfl (by kernel_rfl) (fun e => ?_) (fun e => ⟨_, rD_nrm _ _ _ _⟩)
  change W _ (RetNf _ _ _ (rD 0 [] [] e) []) _ _ ⟨7, [(0, .int .i64 e)], []⟩
  repeat' (first | refine ZV ?_ | refine ZB tm no_specs ?_ | refine ZH (fun hb => ?_) (fun hb => ?_) | refine ZJ (by conv => lhs; simp) ?_ | refine ZA (fun hb => ?_) (fun hb => ?_))
  exact RetNf.dataE rfl (by conv => lhs; simp) (by conv => lhs; simp) (by first | rfl | simp [inlT, inlV]) (rD_nrm0 e)
noncomputable def r2S (a : Int) : SpecFn := mkS2 (fun n : Int => ([.int .i64 n, .ptr 0 0 0 0], [{ gen := 0, kind := 2, elem := 3, size := 1, inl := false, rows := [iC a] }])) fun n => (.bool (n == a), [{ gen := 0, kind := 2, elem := 3, size := 1, inl := false, rows := [iC a] }])
theorem r2S_eq (a n : Int) : r2S a [.int .i64 n, .ptr 0 0 0 0] [{ gen := 0, kind := 2, elem := 3, size := 1, inl := false, rows := [iC a] }] = some (.bool (n == a), [{ gen := 0, kind := 2, elem := 3, size := 1, inl := false, rows := [iC a] }]) :=
  mkS2_eq (enc := fun n : Int => ([AV.int .i64 n, .ptr 0 0 0 0], [{ gen := 0, kind := 2, elem := 3, size := 1, inl := false, rows := [iC a] }])) (res := fun n => (.bool (n == a), [{ gen := 0, kind := 2, elem := 3, size := 1, inl := false, rows := [iC a] }])) (fun x y h => by
    simp only [Prod.mk.injEq, List.cons.injEq, AV.int.injEq, true_and, and_true] at h
    rw [h]) n
theorem r2_ok (a : Int) : FnC Try.prog 110 (r2S a) := by
  refine FnC.walkB 110 (fn := Try.f110) Try.func110 rfl (by kernel_rfl) (fun x b hb => by simp at hb; rw [hb]) fun n => ?_
  change W _ (RetB _ _ 1 (.bool (n == a)) [{ gen := 0, kind := 2, elem := 3, size := 1, inl := false, rows := [[.int .i64 a]] }]) _ _ ⟨7, [(0, .int .i64 n), (1, .ptr 0 0 0 0)], [(0, { gen := 0, kind := 2, elem := 3, size := 1, inl := false, rows := [[.int .i64 a]] })]⟩
  repeat' (first | refine ZV ?_ | refine ZB tm no_specs ?_ | refine ZH (fun hb => ?_) (fun hb => ?_) | refine ZJ (by conv => lhs; simp) ?_ | refine ZA (fun hb => ?_) (fun hb => ?_))
  exact RetB.raw [0] rfl (by conv => lhs; simp) (by decide) (by simp) (by simp [renL]) (by simp)
noncomputable def r2V (a : Int) : ixiW := ⟨110, by simp, by simp, fun n => n == a, 3, 1, iC a, by simp [iC, refsL, AV.refs], by simp [iC, renL, AV.ren], r2S a, r2_ok a, r2S_eq a⟩
noncomputable def retD (e : En) (n : Int) (o : Ob) : En := if e.owner = n then ⟨e.id, -1, e.readers, o, Dir.oth e.waiting n, e.queue⟩ else ⟨e.id, e.owner, Dir.oth e.readers n, e.obj, Dir.oth e.waiting n, e.queue⟩
noncomputable def retL (d : Drs) (id n : Int) (o : Ob) : Int × List En × List Msg × Int :=
  if validD d.node d.ents = false then (0, [], [], 1) else
    let e := fndD id d.ents
    if (id == 0 || (!okN n || (e.owner != n && !decide (n ∈ e.readers)))) = true then (0, [], [], 8) else
      if (e.owner == n && !(oid o == id || zO? o)) = true then (0, [], [], 10) else
        (d.node, putD (Dir.goOn zOb (retD e n o)).2 d.ents, goM (retD e n o) d.node, 0)
noncomputable def retS : SpecFn := mkS (fun d : Drs × Int × Int × Ob => [d.1.v, .int .u64 d.2.1, .int .i64 d.2.2.1, .agg d.2.2.2.cells]) fun d => (rD (retL d.1 d.2.1 d.2.2.1 d.2.2.2).1 (retL d.1 d.2.1 d.2.2.1 d.2.2.2).2.1 (retL d.1 d.2.1 d.2.2.1 d.2.2.2).2.2.1 (retL d.1 d.2.1 d.2.2.1 d.2.2.2).2.2.2, [])
theorem retS_eq (d : Drs) (id n : Int) (o : Ob) : retS [d.v, .int .u64 id, .int .i64 n, .agg o.cells] [] = some (rD (retL d id n o).1 (retL d id n o).2.1 (retL d id n o).2.2.1 (retL d id n o).2.2.2, []) :=
  mkS_eq (enc := fun d : Drs × Int × Int × Ob => [d.1.v, AV.int .u64 d.2.1, .int .i64 d.2.2.1, .agg d.2.2.2.cells]) (res := fun d => (rD (retL d.1 d.2.1 d.2.2.1 d.2.2.2).1 (retL d.1 d.2.1 d.2.2.1 d.2.2.2).2.1 (retL d.1 d.2.1 d.2.2.1 d.2.2.2).2.2.1 (retL d.1 d.2.1 d.2.2.1 d.2.2.2).2.2.2, [])) (fun x y h => by
    obtain ⟨a, b, c, e⟩ := x
    obtain ⟨a', b', c', e'⟩ := y
    simp only [List.cons.injEq, AV.int.injEq, AV.agg.injEq, true_and, and_true] at h
    obtain ⟨h, rfl, rfl, h2⟩ := h
    cases Drs.v_inj h
    cases Td.ext h2
    rfl) (d, id, n, o)
theorem ret_ok : FnC Try.prog 47 retS := by
  refine FnC.walkN 47 (fn := Try.f47) [95, 87, 51] Try.func47 rfl (by kernel_rfl) (fun x => ?_) (fun x => ⟨_, rD_nrm _ _ _ _⟩)
  obtain ⟨⟨nd, l, hl, he⟩, id, n, ob⟩ := x
  obtain ⟨SD, hSD⟩ : ∃ S, S = dli (r2V n) := ⟨_, rfl⟩
  have sp : ∀ x ∈ ([(48, ⟨1, vdS⟩), (109, ⟨1, flS⟩), (103, ⟨1, boS okN⟩), (49, ⟨1, entS⟩), (106, ⟨0, conS⟩), (111, ⟨1, fitS⟩), (56, ⟨1, cobS⟩), (112, ⟨3, SD⟩), (108, ⟨3, finS⟩)] : NL Spec), FnC Try.prog x.1 x.2.fn := by
    simp only [List.mem_cons, List.not_mem_nil, or_false]
    rintro x (rfl | rfl | rfl | rfl | rfl | rfl | rfl | rfl | rfl)
    · exact vdp_ok
    · exact rf_ok
    · exact nod_ok
    · exact ent_ok
    · exact con_ok
    · exact fit2_ok
    · exact cob_ok
    · rw [hSD]; exact dli_ok _
    · exact fin_ok
  have cv := vdS_eq ⟨nd, l, hl, he⟩
  have cf := flS_eq
  have c1 := boS_eq okN n
  have c2 := fitS_eq ob id
  have co := cobS_eq ob
  have ce := entS_eq ⟨nd, l, hl, he⟩ id
  simp only [Drs.v, rD, List.map_nil] at cv cf ce
  change W _ (RetNf _ _ _ (rD (retL ⟨nd, l, hl, he⟩ id n ob).1 (retL ⟨nd, l, hl, he⟩ id n ob).2.1 (retL ⟨nd, l, hl, he⟩ id n ob).2.2.1 (retL ⟨nd, l, hl, he⟩ id n ob).2.2.2) []) _ _ ⟨127, [(0, .agg [.int .i64 nd, .list 41 (l.map enC)]), (1, .int .u64 id), (2, .int .i64 n), (3, .agg ob.cells)], []⟩
  generalize hR : retL ⟨nd, l, hl, he⟩ id n ob = R
  unfold retL at hR
  dsimp only at hR
  cases hv : validD nd l with
  | false =>
    rw [if_pos hv] at hR
    subst hR
    rw [hv] at cv
    repeat' (first | refine ZV ?_ | refine ZB tm sp ?_ | refine ZH (fun hb => ?_) (fun hb => ?_) | refine ZJ (by conv => lhs; simp [cv, cf]) ?_ | refine ZA (fun hb => ?_) (fun hb => ?_))
    refine RetNf.dataE rfl (by conv => lhs; simp) (by conv => lhs; simp) (by first | rfl | simp [inlT, inlV]) ?_
    exact rD_nrm 0 [] [] 1
  | true =>
    rw [if_neg (by simp [hv])] at hR
    rw [hv] at cv
    obtain ⟨oe, oa, o1, o2⟩ := fndD_ok he hv id
    generalize okN n = b1 at *
    generalize (oid ob == id || zO? ob) = b2 at *
    generalize fndD id l = e at *
    obtain ⟨id', ow, rd, o, wt, q⟩ := e
    obtain ⟨-, -, o3⟩ := oe
    dsimp only at oa o1 o2 o3 ce hR
    simp only [enX, ixiB, ixaB] at ce
    have c3 := conS_eq rd n (by omega)
    have cd : ∀ (l : List Int), l.length ≤ 9100 → SD [.sl 0 0 0 l.length, .fn (.func 110) [] [.ptr 1 0 0 0]] [{ gen := 0, kind := 2, elem := 3, size := 1, inl := true, rows := l.map iC }, { gen := 0, kind := 2, elem := 3, size := 1, inl := false, rows := [[.int .i64 n]] }] = some (.sl 0 1 0 (Dir.oth l n).length, [{ gen := 1, kind := 2, elem := 3, size := 1, inl := true, rows := (Dir.oth l n).map iC }, { gen := 0, kind := 2, elem := 3, size := 1, inl := false, rows := [[.int .i64 n]] }]) := fun l h => by rw [hSD]; exact dli_eq (r2V n) l h
    clear hSD
    have d1 := cd rd (by omega)
    have d2 := cd wt (by omega)
    have l1 : (Dir.oth rd n).length ≤ rd.length := List.length_filter_le _ _
    have l2 : (Dir.oth wt n).length ≤ wt.length := List.length_filter_le _ _
    have oa2 := Dir.asc_oth oa n
    generalize hb3 : decide (n ∈ rd) = b3 at *
    unfold retD at hR
    dsimp only at hR
    generalize Dir.oth wt n = wt' at *
    have t1 : List.take rd.length (rd.map iC) = rd.map iC := List.take_of_length_le (by simp)
    have t2 : List.take wt'.length (wt'.map iC) = wt'.map iC := List.take_of_length_le (by simp)
    have t3 : List.take q.length (q.map askC) = q.map askC := List.take_of_length_le (by simp)
    by_cases ho : ow = n
    · subst ho
      have eo : (ow != ow) = false := by simp
      have eo2 : (ow == ow) = true := by simp
      rw [eo, eo2] at hR
      rw [if_pos rfl] at hR
      have cF := finS_eq ⟨⟨nd, l, hl, he⟩, ⟨id', -1, rd, ob, wt', q⟩, by dsimp only; omega, by dsimp only; omega, oa⟩
      unfold finR at cF
      simp only [Drs.v, sesB, sesC] at cF
      generalize goM ⟨id', -1, rd, ob, wt', q⟩ nd = ms at *
      generalize Dir.goOn zOb ⟨id', -1, rd, ob, wt', q⟩ = G at *
      obtain ⟨m0, e'⟩ := G
      dsimp only at cF hR
      generalize putD e' l = L at *
      simp only [rD] at cF
      repeat' (first | refine ZV ?_ | refine ZB (id := 0) tm sp ?_ | refine ZB (id := 1) tm sp ?_ | refine ZB (id := 2) tm sp ?_ | refine ZB (id := 3) tm sp ?_ | refine ZB (id := 4) tm sp ?_ | refine ZB (id := 5) tm sp ?_ | refine ZB (id := 6) tm sp ?_ | refine ZB (id := 7) tm sp ?_ | refine ZB (id := 8) tm sp ?_ | refine ZB (id := 9) tm sp ?_ | refine ZB (id := 10) tm sp ?_ | refine ZB (id := 11) tm sp ?_ | refine ZB (id := 12) tm sp ?_ | refine ZB (id := 13) tm sp ?_ | refine ZH (fun hb => ?_) (fun hb => ?_) | refine ZJ (by conv => lhs; simp [cv, cf, c1, c2, ce, c3, co, d1, d2, eo, eo2, t1]) ?_ | refine ZA (fun hb => ?_) (fun hb => ?_))
      all_goals try (refine RetNf.dataE rfl (by conv => lhs; simp) (by conv => lhs; simp) (by first | rfl | simp [inlT, inlV]) ?_)
      all_goals try (rw [if_pos (by simp [*])] at hR; subst hR; exact rD_nrm 0 [] [] 8)
      all_goals rw [if_neg (by simp_all)] at hR
      all_goals try (rw [if_pos (by simp [*])] at hR; subst hR; exact rD_nrm 0 [] [] 10)
      all_goals rw [if_neg (by simp_all)] at hR
      all_goals subst hR
      all_goals (
        refine W.frzC 464 0 2 rfl rfl rfl rfl (by simp; rfl) (by conv => lhs; simp [frqT, frqV, frq1, frz1, AP.run, t1]) (by rfl) ?_
        simp [st]
        refine W.frzC 464 0 39 rfl rfl rfl rfl (by simp; rfl) (by conv => lhs; simp [frqT, frqV, frq1, frz1, AP.run, t2]) (by rfl) ?_
        simp [st]
        refine W.frzC 464 0 40 rfl rfl rfl rfl (by simp; rfl) (by conv => lhs; simp [frqT, frqV, frq1, frz1, AP.run, t3]) (by rfl) ?_
        simp [st])
      all_goals (
        repeat' (first | refine ZV ?_ | refine ZB tm sp ?_ | refine ZH (fun hb => ?_) (fun hb => ?_) | refine ZJ (by conv => lhs; simp [cF]) ?_ | refine ZA (fun hb => ?_) (fun hb => ?_))
        refine RetNf.dataE rfl (by conv => lhs; simp) (by conv => lhs; simp) (by first | rfl | simp [inlT, inlV]) ?_
        exact rD_nrm nd L ms 0)
    · have eo : (ow != n) = true := by simp [ho]
      have eo2 : (ow == n) = false := by simp [ho]
      rw [eo, eo2] at hR
      rw [if_neg ho] at hR
      generalize Dir.oth rd n = rd' at *
      have t4 : List.take rd'.length (rd'.map iC) = rd'.map iC := List.take_of_length_le (by simp)
      have cF := finS_eq ⟨⟨nd, l, hl, he⟩, ⟨id', ow, rd', o, wt', q⟩, by dsimp only; omega, by dsimp only; omega, oa2⟩
      unfold finR at cF
      simp only [Drs.v, sesB, sesC] at cF
      generalize goM ⟨id', ow, rd', o, wt', q⟩ nd = ms at *
      generalize Dir.goOn zOb ⟨id', ow, rd', o, wt', q⟩ = G at *
      obtain ⟨m0, e'⟩ := G
      dsimp only at cF hR
      generalize putD e' l = L at *
      simp only [rD] at cF
      repeat' (first | refine ZV ?_ | refine ZB (id := 0) tm sp ?_ | refine ZB (id := 1) tm sp ?_ | refine ZB (id := 2) tm sp ?_ | refine ZB (id := 3) tm sp ?_ | refine ZB (id := 4) tm sp ?_ | refine ZB (id := 5) tm sp ?_ | refine ZB (id := 6) tm sp ?_ | refine ZB (id := 7) tm sp ?_ | refine ZB (id := 8) tm sp ?_ | refine ZB (id := 9) tm sp ?_ | refine ZB (id := 10) tm sp ?_ | refine ZB (id := 11) tm sp ?_ | refine ZB (id := 12) tm sp ?_ | refine ZB (id := 13) tm sp ?_ | refine ZH (fun hb => ?_) (fun hb => ?_) | refine ZJ (by conv => lhs; simp [cv, cf, c1, c2, ce, c3, co, d1, d2, eo, eo2, t1]) ?_ | refine ZA (fun hb => ?_) (fun hb => ?_))
      all_goals try (refine RetNf.dataE rfl (by conv => lhs; simp) (by conv => lhs; simp) (by first | rfl | simp [inlT, inlV]) ?_)
      all_goals try (rw [if_pos (by simp [*])] at hR; subst hR; exact rD_nrm 0 [] [] 8)
      all_goals rw [if_neg (by simp_all)] at hR
      all_goals try (rw [if_pos (by simp [*])] at hR; subst hR; exact rD_nrm 0 [] [] 10)
      all_goals rw [if_neg (by simp_all)] at hR
      all_goals subst hR
      all_goals (
        refine W.frzC 464 0 2 rfl rfl rfl rfl (by simp; rfl) (by conv => lhs; simp [frqT, frqV, frq1, frz1, AP.run, t4]) (by rfl) ?_
        simp [st]
        refine W.frzC 464 0 39 rfl rfl rfl rfl (by simp; rfl) (by conv => lhs; simp [frqT, frqV, frq1, frz1, AP.run, t2]) (by rfl) ?_
        simp [st]
        refine W.frzC 464 0 40 rfl rfl rfl rfl (by simp; rfl) (by conv => lhs; simp [frqT, frqV, frq1, frz1, AP.run, t3]) (by rfl) ?_
        simp [st])
      all_goals (
        repeat' (first | refine ZV ?_ | refine ZB tm sp ?_ | refine ZH (fun hb => ?_) (fun hb => ?_) | refine ZJ (by conv => lhs; simp [cF]) ?_ | refine ZA (fun hb => ?_) (fun hb => ?_))
        refine RetNf.dataE rfl (by conv => lhs; simp) (by conv => lhs; simp) (by first | rfl | simp [inlT, inlV]) ?_
        exact rD_nrm nd L ms 0)
end Go.Abs.Na
namespace Go.Abs.Na
open Go Go.Proofs Go.Abs
set_option maxRecDepth 100000
set_option maxHeartbeats 4000000
set_option linter.unusedSimpArgs false
set_option linter.unusedVariables false
theorem tNV : Try.prog.funcs.all (fun fn => !(fn.name == "runtime.NumGoroutine")) = true := by kernel_rfl
/-- Sorting one number. -/
def sort1 : SpecFn := fun args B => match args, B with
  | [.sl 0 0 0 1], [⟨0, 2, 3, 1, true, [[.int .i64 m]]⟩] => some (.tup [], [⟨0, 2, 3, 1, true, [[.int .i64 m]]⟩])
  | _, _ => none
theorem sort1_ok : FnC Try.prog 215 sort1 := by
  refine ⟨sort_ok.fn, fun args B r B' h => sort_ok.calls args B r B' ?_⟩
  unfold sort1 at h
  split at h
  · rename_i m
    cases h
    have hs : srt [m] = [m] := List.perm_singleton.1 (srt_perm [m])
    have := sortS_eq [m] (by simp) (by simp)
    rw [hs] at this
    exact this
  · cases h
def base : NL SpecFn := [(181, cloneC 3 1 8), (182, cloneC 120 2 16), (176, insertC 117 41 552), (215, sort1)]
theorem base_ok : ∀ f S, lk base f = some S → FnC Try.prog f S := by
  intro f S h
  simp only [base, lk] at h
  split at h
  · rename_i e; subst e; cases h; exact clone181_ok
  split at h
  · rename_i e; subst e; cases h; exact clone182_ok
  split at h
  · rename_i e; subst e; cases h; exact insert176_ok
  split at h
  · rename_i e; subst e; cases h; exact sort1_ok
  · cases h
noncomputable def run (f : FuncId) : SpecFn := runB Try.prog base 1000 40 f
theorem run_ok (f : FuncId) {fn : Func} {body : Code} (hf : Try.prog.funcs[f]? = some fn) (hb : fn.body = some body) : FnC Try.prog f (run f) := runB_ok base_ok tm tNV 40 f hf hb
noncomputable def pf (f : FuncId) : SpecFn := pureS (run f)
theorem pf_ok (f : FuncId) {fn : Func} {body : Code} (hf : Try.prog.funcs[f]? = some fn) (hb : fn.body = some body) : FnC Try.prog f (pf f) := FnC.pure (run_ok f hf hb)
theorem sane_eq : pf 44 [] [] = some (.bool true, []) := by kernel_rfl
theorem saneD_ex : ∃ S, FnC Try.prog 44 S ∧ S [] [] = some (.bool true, []) := ⟨_, pf_ok 44 Try.func44 rfl, sane_eq⟩
end Go.Abs.Na
namespace Go.Abs.Na
open Go Go.Proofs Go.Abs
set_option maxRecDepth 100000
set_option maxHeartbeats 4000000
set_option linter.unusedSimpArgs false
set_option linter.unusedVariables false
attribute [local simp] instA
attribute [-simp] mkv
attribute [local simp] mkv_hd hdA_cons hdA_ob hdA_ob'
@[simp] def hdC (h : Dir.Hd) : List AV := [.int .i64 (h.mode 0), .int .i64 (h.mode 1), .int .i64 (h.mode 2), .int .i64 (h.mode 3), .bool (h.demand 0), .bool (h.demand 1), .bool (h.demand 2), .bool (h.demand 3), .int .i64 (h.asked 0), .int .i64 (h.asked 1), .int .i64 (h.asked 2), .int .i64 (h.asked 3)]
def hdB (h : Dir.Hd) : ABlk := { gen := 0, kind := 2, elem := 110, size := 12, inl := false, rows := [hdC h] }
noncomputable def mgs (nd id : Int) (l : List (Dir.Mg Ob)) : List AV := [.list 45 ((l.map (mgM nd id)).map Msg.v)]
noncomputable def tkS (h h' : Dir.Hd) (nd id : Int) (l : List (Dir.Mg Ob)) : SpecFn := mkS2 (fun _ : Unit => (.ptr 0 0 0 0 :: mgs nd id l, [hdB h])) fun _ => (.bool true, [hdB h'])
theorem tkS_eq (h h' : Dir.Hd) (nd id : Int) (l : List (Dir.Mg Ob)) : tkS h h' nd id l (.ptr 0 0 0 0 :: mgs nd id l) [hdB h] = some (.bool true, [hdB h']) :=
  mkS2_eq (enc := fun _ : Unit => (AV.ptr 0 0 0 0 :: mgs nd id l, [hdB h])) (res := fun _ => (.bool true, [hdB h'])) (fun _ _ _ => rfl) ()
theorem take_ok (h0 h' : Dir.Hd) (nd id : Int) (l : List (Dir.Mg Ob)) (hl : l.length ≤ 9000) (ht : Dir.takeA h0 l = some h') : FnC Try.prog 46 (tkS h0 h' nd id l) := by
  refine FnC.walkB 46 (fn := Try.f46) Try.func46 rfl (by kernel_rfl) (fun x b hb => by simp at hb; rw [hb]; rfl) fun _ => ?_
  obtain ⟨ms, hms⟩ : ∃ ms, l.map (mgM nd id) = ms := ⟨_, rfl⟩
  have hml : ms.length = l.length := by rw [← hms]; simp
  change W _ (RetB _ _ 1 (.bool true) [hdB h']) _ _ ⟨91, [(0, .ptr 0 0 0 0), (1, .list 45 ((l.map (mgM nd id)).map Msg.v))], [(0, hdB h0)]⟩
  rw [hms]
  have cap : ms.length ≤ 9223372036854775807 := by omega
  repeat' (first | refine ZV ?_ | refine ZB tm no_specs ?_ | refine ZH (fun hb => ?_) (fun hb => ?_) | refine ZJ (by conv => lhs; simp [cap]) ?_ | refine ZA (fun hb => ?_) (fun hb => ?_))
  refine W.loop rfl (ι := { x : Nat × Dir.Hd × NL ABlk // x.1 ≤ ms.length ∧ Dir.takeA x.2.1 (l.drop x.1) = some h' ∧ lk x.2.2 0 = some (hdB x.2.1) })
    (fun x => ⟨91, [(0, .ptr 0 0 0 0), (9, .list 45 (ms.map Msg.v)), (10, .int .i64 ms.length), (11, .int .i64 (x.1.1 : Nat))], x.1.2.2⟩) (fun x => ms.length - x.1.1)
    ⟨(0, h0, _), by simp, ht, rfl⟩ (AS.le_of rfl ⟨rfl, rfl, rfl, rfl, trivial⟩ (fun _ => rfl)) ?_
  rintro ⟨⟨k, hk, H⟩, hk1, hk3, g0⟩
  dsimp only at hk1 hk3 g0 ⊢
  by_cases hk2 : k = ms.length
  · subst hk2
    rw [List.drop_of_length_le (by omega)] at hk3
    cases hk3
    repeat' (first | refine ZV ?_ | refine ZB tm no_specs ?_ | refine ZH (fun hb => ?_) (fun hb => ?_) | refine ZJ (by conv => lhs; simp) ?_ | refine ZA (fun hb => ?_) (fun hb => ?_))
    exact RetB.raw [0] rfl (by conv => lhs; simp) (by decide) (by simp [g0, hdB]) (by simp [g0, hdB]) (by simp)
  · have hlt : k < ms.length := by omega
    obtain ⟨m, hr⟩ := get_lt (l := l) (i := k) (by omega)
    have hm : (ms.map Msg.v)[k]? = some (mgM nd id m).v := by rw [← hms, List.getElem?_map, List.getElem?_map, hr]; rfl
    have hd : l.drop k = m :: l.drop (k + 1) := by
      obtain ⟨h1, h2⟩ := List.getElem?_eq_some_iff.1 hr
      rw [List.drop_eq_getElem_cons h1, h2]
    rw [hd, Dir.takeA] at hk3
    obtain ⟨h2, e1, e2⟩ := Option.bind_eq_some_iff.1 hk3
    have q1 : (k : Int) < ms.length := by omega
    have q2 : ¬ ms.length ≤ k := by omega
    have hw : IntKind.i64.wrap ((k : Int) + 1) = ((k + 1 : Nat) : Int) := w64 (by omega) (by omega)
    clear hlt hk2 hk3
    simp only [hdB, hdC] at g0
    cases m with
    | rev to =>
      have e1 : (if _ then _ else _) = _ := e1
      split at e1
      · cases e1
      rename_i hc
      cases e1
      have hto : to = 0 ∨ to = 1 ∨ to = 2 ∨ to = 3 := by omega
      have hm0 : (hk.mode to == 0) = false := by simp; omega
      simp only [mgM, revM, Msg.v] at hm
      rcases hto with rfl | rfl | rfl | rfl
      all_goals (
        repeat' (first | refine ZV ?_ | refine ZB tm no_specs ?_ | refine ZH (fun hb => ?_) (fun hb => ?_) | refine ZJ (by conv => lhs; simp [q1, q2, hm, hw, g0, hm0]) ?_ | refine ZA (fun hb => ?_) (fun hb => ?_))
        exact ⟨⟨(k + 1, _, _), by dsimp only; omega, e2, by simp [lk_st, hdB, Dir.up]⟩, by dsimp only; omega, AS.le_of rfl ⟨rfl, rfl, rfl, rfl, trivial⟩ (fun _ => rfl)⟩)
    | grant to m o =>
      have e1 : (if _ then _ else _) = _ := e1
      split at e1
      · cases e1
      rename_i hc
      cases e1
      simp only [not_or, Bool.not_eq_true] at hc
      obtain ⟨c1, c2, d0, d1, d2, d3, c3⟩ := hc
      have hto : to = 0 ∨ to = 1 ∨ to = 2 ∨ to = 3 := by omega
      have ha : (hk.asked to != m) = false := by simpa using c3
      simp only [mgM, graM, Msg.v] at hm
      have fj : ∀ j, Dir.clash hk to m j = false → (j != to) = true → (hk.mode j == 2) = false ∧ (hk.mode j == 1 && m == 2) = false := fun j hc hj => by
        have hne : j ≠ to := by simpa using hj
        simp only [Dir.clash, decide_eq_true_eq, hne, ne_eq, not_false_eq_true, decide_true, Bool.true_and, Bool.or_eq_false_iff, decide_eq_false_iff_not] at hc
        refine ⟨by simpa using hc.1, ?_⟩
        have := hc.2
        simpa using this
      have f0 := fj 0 d0
      have f1 := fj 1 d1
      have f2 := fj 2 d2
      have f3 := fj 3 d3
      clear fj d0 d1 d2 d3 c1 c2
      have hsplit : ∀ to', to = to' → to' = to := fun _ h => h.symm
      rcases hto with rfl | rfl | rfl | rfl
      all_goals (
        repeat' (first | refine ZV ?_ | refine ZB tm no_specs ?_ | refine ZH (fun hb => ?_) (fun hb => ?_) | refine ZJ (by conv => lhs; simp [q1, q2, hm, g0]) ?_ | refine ZA (fun hb => ?_) (fun hb => ?_))
        refine W.loop rfl (ι := { x : Nat × NL ABlk // x.1 ≤ 4 ∧ lk x.2 0 = some (hdB hk) ∧ lk x.2 112 = some { gen := ((lk H 112).getD {}).gen + 1, kind := 2, elem := 50, size := 45, inl := false, rows := [(graM nd id _ m o).v] } })
          (fun x => ⟨91, [(0, .ptr 0 0 0 0), (6, .ptr 112 (((lk H 112).getD {}).gen + 1) 0 0), (9, .list 45 (ms.map Msg.v)), (10, .int .i64 ms.length), (11, .int .i64 (k : Nat)), (43, .agg [.int .i64 (hk.mode 0), .int .i64 (hk.mode 1), .int .i64 (hk.mode 2), .int .i64 (hk.mode 3)]), (44, .int .i64 (x.1.1 : Nat))], x.1.2⟩) (fun x => 4 - x.1.1)
          ⟨(0, _), by simp, by simp [lk_st, g0, hdB], by simp [lk_st, graM]; rfl⟩ (AS.le_of rfl ⟨rfl, rfl, rfl, rfl, rfl, rfl, rfl, trivial⟩ (fun _ => rfl)) ?_
        rintro ⟨⟨j, H2⟩, hj, i0, i1⟩
        dsimp only at hj i0 i1 ⊢
        simp only [hdB, hdC, graM, Msg.v] at i0 i1
        by_cases hj4 : j = 4
        · subst hj4
          repeat' (first | refine ZV ?_ | refine ZB tm no_specs ?_ | refine ZH (fun hb => ?_) (fun hb => ?_) | refine ZJ (by conv => lhs; simp [i0, i1, ha, hw]) ?_ | refine ZA (fun hb => ?_) (fun hb => ?_))
          exact ⟨⟨(k + 1, _, _), by dsimp only; omega, e2, by simp [lk_st, hdB, Dir.up]⟩, by dsimp only; omega, AS.le_of rfl ⟨rfl, rfl, rfl, rfl, trivial⟩ (fun _ => rfl)⟩
        · have hj3 : j = 0 ∨ j = 1 ∨ j = 2 ∨ j = 3 := by omega
          clear hj4 hj hsplit
          rcases hj3 with rfl | rfl | rfl | rfl
          all_goals (
            repeat' (first | refine ZV ?_ | refine ZB tm no_specs ?_ | refine ZH (fun hb => ?_) (fun hb => ?_) | refine ZJ (by conv => lhs; simp [i0, i1]) ?_ | refine ZA (fun hb => ?_) (fun hb => ?_))
            skip)
          all_goals first
            | exact ⟨⟨(1, _), by dsimp only; omega, by simp [hdB, i0], by simp [graM, i1]⟩, by dsimp only; omega, AS.le_of rfl ⟨rfl, rfl, rfl, rfl, rfl, rfl, rfl, trivial⟩ (fun _ => rfl)⟩
            | exact ⟨⟨(2, _), by dsimp only; omega, by simp [hdB, i0], by simp [graM, i1]⟩, by dsimp only; omega, AS.le_of rfl ⟨rfl, rfl, rfl, rfl, rfl, rfl, rfl, trivial⟩ (fun _ => rfl)⟩
            | exact ⟨⟨(3, _), by dsimp only; omega, by simp [hdB, i0], by simp [graM, i1]⟩, by dsimp only; omega, AS.le_of rfl ⟨rfl, rfl, rfl, rfl, rfl, rfl, rfl, trivial⟩ (fun _ => rfl)⟩
            | exact ⟨⟨(4, _), by dsimp only; omega, by simp [hdB, i0], by simp [graM, i1]⟩, by dsimp only; omega, AS.le_of rfl ⟨rfl, rfl, rfl, rfl, rfl, rfl, rfl, trivial⟩ (fun _ => rfl)⟩
            | (exfalso; simp_all))
end Go.Abs.Na
namespace Go.Abs.Na
open Go Go.Proofs Go.Abs
set_option maxRecDepth 100000
set_option maxHeartbeats 4000000
set_option linter.unusedSimpArgs false
set_option linter.unusedVariables false
/-! ### A device -/
def deC (id n : Int) : List AV := [.int .u64 id, .int .i64 9, .int .i64 0, .int .i64 0, .int .u64 0, .nils, .nils, .nils, .int .i64 0, .int .i64 0, .int .i64 0, .int .i64 0, .int .i64 0, .int .i64 0, .int .i64 0, .int .i64 0, .int .i64 0, .int .i64 0, .nils, .nils, .int .i64 0, .int .i64 0, .int .i64 0, .nils, .nils, .int .i64 0, .int .u64 0, .int .i64 0, .int .i64 0, .nils, .nils, .nils, .int .i64 0, .int .i64 0, .int .i64 n, .nils]
def deN (id n : Int) : List AV := [.int .u64 id, .int .i64 9, .int .i64 0, .int .i64 0, .int .u64 0, .list 1 [], .list 4 [], .list 1 [], .int .i64 0, .int .i64 0, .int .i64 0, .int .i64 0, .int .i64 0, .int .i64 0, .int .i64 0, .int .i64 0, .int .i64 0, .int .i64 0, .list 2 [], .list 4 [], .int .i64 0, .int .i64 0, .int .i64 0, .list 1 [], .list 1 [], .int .i64 0, .int .u64 0, .int .i64 0, .int .i64 0, .list 1 [], .list 1 [], .list 1 [], .int .i64 0, .int .i64 0, .int .i64 n, .list 3 []]
theorem de_nrm (id n : Int) : nrmL Try.prog (leafs Try.prog 48) (deC id n) = deN id n := by kernel_rfl
theorem wf0iD : (Lit.int .i64 0).wf = true := by decide
theorem wf9iD : (Lit.int .i64 9).wf = true := by decide
theorem wf0uD : (Lit.int .u64 0).wf = true := by decide
theorem de_p {id n : Int} (h1 : (Lit.int .u64 id).wf = true) (h2 : (Lit.int .i64 n).wf = true) : tyP Try.prog 8 48 (deN id n) = some [] := by
  simp [tyP, tyFsP, tyB, tyI, tyS, deN, List.replicate, Try.underlying48, Try.underlying30, Try.underlying3, Try.underlying42, Try.underlying31, Try.underlying35, Try.underlying32, Try.underlying33, Try.underlying38, Try.underlying36, Try.underlying2, Try.underlying39, Try.underlying40, Try.underlying43, Try.underlying22, Try.underlying44, Try.underlying45, Try.underlying46, vc30, vc252, vc9, vc224, vc227, vc2, vc5, vc137, h1, h2, wf0iD, wf9iD, wf0uD]
theorem de_ty {id n : Int} (h1 : (Lit.int .u64 id).wf = true) (h2 : (Lit.int .i64 n).wf = true) : TyR Try.prog 8 48 (deN id n) := by
  obtain ⟨a, e1, e2⟩ := tyP_ok 8 _ _ _ (de_p h1 h2)
  rw [List.append_nil] at e1
  rw [e1]
  exact e2
theorem de_bd (id n : Int) : bdL 10000 (deN id n) = true := by kernel_rfl
def deO (id n : Int) (h1 : (Lit.int .u64 id).wf = true) (h2 : (Lit.int .i64 n).wf = true) : Ob := ⟨deN id n, de_ty h1 h2, de_bd id n⟩
theorem oid_de {id n : Int} {h1 : (Lit.int .u64 id).wf = true} {h2 : (Lit.int .i64 n).wf = true} : oid (deO id n h1 h2) = id := by
  obtain ⟨r, h⟩ := oid_eq (deO id n h1 h2)
  have h : deN id n = .int .u64 (oid (deO id n h1 h2)) :: r := h
  unfold deN at h
  simp only [List.cons.injEq, AV.int.injEq, true_and] at h
  exact h.1.symm
noncomputable def retN : SpecFn := nS Try.prog [95, 30, 3, 48] retS
theorem retN_ok : FnC Try.prog 47 retN := ret_ok.nrm _
theorem drs_nrmV (n : Int) (l : List En) : nrmV Try.prog 95 (.agg [.int .i64 n, .list 41 (l.map enC)]) = .agg [.int .i64 n, .list 41 (l.map enC)] := by
  simp only [nrmV, drLeafs, nrmL, uE, nrmRows_map enC_nrm]
theorem retN_eq (d : Drs) (id n i v : Int) (h1 : (Lit.int .u64 i).wf = true) (h2 : (Lit.int .i64 v).wf = true) : retN [d.v, .int .u64 id, .int .i64 n, .agg (deC i v)] [] = some (rD (retL d id n (deO i v h1 h2)).1 (retL d id n (deO i v h1 h2)).2.1 (retL d id n (deO i v h1 h2)).2.2.1 (retL d id n (deO i v h1 h2)).2.2.2, []) := by
  rw [retN, nS_eq]
  simp only [nrmL]
  rw [show nrmV Try.prog 95 d.v = d.v from drs_nrmV _ _, show nrmV Try.prog 48 (.agg (deC i v)) = .agg (deO i v h1 h2).cells by rw [nrmV, de_nrm]; rfl]
  exact retS_eq d id n _
/-! ### One object -/
theorem zob_z : zO? zOb = true := by kernel_rfl
def idK : Int := 216172782113783813
theorem idK_wf : (Lit.int .u64 idK).wf = true := by decide
theorem ow0_S : ow0 idK = 3 := by
  have h : sp0 idK = 3 := by decide
  rw [ow0, h]
  rfl
/-- Objects that fit. -/
def Pz (id : Int) (o : Ob) : Prop := (oid o == id || zO? o) = true
theorem pz_zob (id : Int) : Pz id zOb := by simp [Pz, zob_z]
theorem pz_de {id n : Int} {h1 : (Lit.int .u64 id).wf = true} {h2 : (Lit.int .i64 n).wf = true} : Pz id (deO id n h1 h2) := by simp [Pz, oid_de]
theorem asc_ofN4 {l : List Int} (h1 : ∀ n ∈ l, Dir.N4 n) (h2 : Dir.Asc l) : ascN l = true := ascN_iff.2 ⟨fun n hn => by
  have := h1 n hn
  unfold Dir.N4 at this
  simp [okN]
  omega, h2⟩
theorem inv_wt {id : Int} {e : En} {h : Dir.Hd} (hi : Dir.Inv (Pz id) zOb e h) : (∀ n ∈ e.waiting, Dir.N4 n ∧ (n = e.owner ∨ n ∈ e.readers)) ∧ Dir.Asc e.waiting := by
  rcases hi.wt with ⟨w1, _⟩ | ⟨_, p, q, _, ⟨w3, w4⟩ | ⟨w3, w4, w5⟩⟩
  · rw [w1]
    exact ⟨by simp, List.Pairwise.nil⟩
  · rw [w4]
    refine ⟨fun n hn => ?_, List.pairwise_singleton _ _⟩
    simp only [List.mem_singleton] at hn
    subst hn
    rcases hi.pre.owr with h | h
    · exact absurd h w3
    · exact ⟨h, .inl rfl⟩
  · rw [w5]
    refine ⟨fun n hn => ?_, Dir.asc_oth hi.pre.asc _⟩
    have := (Dir.mem_oth.1 hn).1
    exact ⟨hi.pre.rdr n this, .inr this⟩
theorem inv_fine {id : Int} (h0 : id ≠ 0) {e : En} {h : Dir.Hd} (hi : Dir.Inv (Pz id) zOb e h) (hid : e.id = id) : fineB e = true := by
  obtain ⟨w1, w2⟩ := inv_wt hi
  have a1 := asc_ofN4 hi.pre.rdr hi.pre.asc
  have a2 := asc_ofN4 (fun n hn => (w1 n hn).1) w2
  have b1 : decide (-1 ≤ e.owner) = true := by
    rcases hi.pre.owr with h | h
    · simp [h]
    · unfold Dir.N4 at h; simp; omega
  have b2 : decide (e.owner ≤ 127) = true := by
    rcases hi.pre.owr with h | h
    · simp [h]
    · unfold Dir.N4 at h; simp; omega
  have b3 : (e.owner == -1 || ((e.readers.length : Int) == 0 && zO? e.obj)) = true := by
    by_cases ho : e.owner = -1
    · simp [ho]
    · rw [hi.pre.one ho, hi.pre.obz ho, zob_z]
      simp
  have b4 : (oid e.obj == e.id || zO? e.obj) = true := by rw [hid]; exact hi.pre.obp
  have b5 : e.waiting.any (strg e) = false := by
    rw [List.any_eq_false]
    intro n hn
    rcases (w1 n hn).2 with h | h
    · simp [strg, h]
    · simp [strg, h]
  have b6 : e.queue.any oddA = false := by
    rw [List.any_eq_false]
    intro p hp
    obtain ⟨d1, _, d3, _⟩ := hi.pre.q1 p hp
    unfold Dir.N4 at d1
    have e1 : okN p.1 = true := by simp [okN]; omega
    have e2 : okM p.2 = true := by simpa [okM] using d3
    simp [oddA, e1, e2]
  have b7 : (decide ((0 : Int) < e.waiting.length) || (e.queue.length : Int) == 0) = true := by
    rcases hi.wt with ⟨_, w⟩ | ⟨w, _⟩
    · simp [w]
    · have := List.length_pos_iff.2 w
      simp; left; omega
  have b8 : (e.id != 0) = true := by simpa [hid] using h0
  unfold fineB
  rw [a1, a2, b1, b2, b3, b4, b5, b6, b7, b8]
  rfl
/-- The directory's entries, and the entry of the object. -/
def DS (id : Int) (l : List En) (e : En) : Prop := (l = [] ∧ e = ent0 id) ∨ (l = [e] ∧ e.id = id)
theorem ds_id {id : Int} {l : List En} {e : En} (h : DS id l e) : e.id = id := by
  rcases h with ⟨_, rfl⟩ | ⟨_, h⟩
  · rfl
  · exact h
theorem ds_fnd {id : Int} {l : List En} {e : En} (h : DS id l e) : fndD id l = e := by
  rcases h with ⟨rfl, rfl⟩ | ⟨rfl, h⟩
  · rfl
  · simp [fndD, List.find?_cons, h]
theorem ds_put {id : Int} {l : List En} {e e' : En} (h : DS id l e) (he : e'.id = id) : putD e' l = [e'] := by
  rcases h with ⟨rfl, _⟩ | ⟨rfl, h⟩
  · have hb : bsD [] e'.id = 0 := by unfold bsD; rw [bsF_ge (by simp)]
    simp [putD, hb, hasD]
  · have hb : bsD [e] id = 0 := by
      unfold bsD
      rw [bsF_lt (by simp)]
      simp [h, bsF_ge]
    unfold putD
    rw [he, hb]
    simp [hasD, h]
theorem ds_valid {id nd : Int} (h0 : id ≠ 0) (hn : okN nd = true) {l : List En} {e : En} {h : Dir.Hd} (hd : DS id l e) (hi : Dir.Inv (Pz id) zOb e h) : validD nd l = true := by
  rcases hd with ⟨rfl, _⟩ | ⟨rfl, hid⟩
  · simp [validD, hn]
  · have := inv_fine h0 hi hid
    simp [validD, hn, goodD, this]
theorem ds_ok {id : Int} {l : List En} {e : En} {h : Dir.Hd} (hd : DS id l e) (hi : Dir.Inv (Pz id) zOb e h) : l.length ≤ 9000 ∧ ∀ x ∈ l, okE x := by
  rcases hd with ⟨rfl, _⟩ | ⟨rfl, hid⟩
  · simp
  · refine ⟨by simp, fun x hx => ?_⟩
    simp only [List.mem_singleton] at hx
    subst hx
    obtain ⟨w1, w2⟩ := inv_wt hi
    have a1 := asc_len (asc_ofN4 hi.pre.rdr hi.pre.asc)
    have a2 := asc_len (asc_ofN4 (fun n hn => (w1 n hn).1) w2)
    have a3 := hi.q4
    exact ⟨by omega, by omega, by omega⟩
theorem goQ_msgs (z : Ob) : ∀ {q : List (Int × Int)} {ow : Int} {rd : List Int} {ob : Ob}, (Dir.goQ z q ow rd ob).1.length ≤ 2 * q.length + rd.length + 1
  | [], _, _, _ => Nat.zero_le _
  | (n, m) :: q, ow, rd, ob => by
    have h1 := goQ_msgs z (q := q) (ow := ow) (rd := Dir.ins n (Dir.oth rd n)) (ob := ob)
    have h2 := goQ_msgs z (q := q) (ow := n) (rd := []) (ob := z)
    have h3 : (Dir.ins n (Dir.oth rd n)).length = (Dir.oth rd n).length + 1 := (ins_perm _ _).length_eq
    have h4 : (Dir.oth rd n).length ≤ rd.length := List.length_filter_le _ _
    rw [Dir.goQ]
    split
    · simp
    · split
      · simp; omega
      · split
        · simp; omega
        · simp at h2 ⊢; omega
theorem goOn_msgs (e : En) : (Dir.goOn zOb e).1.length ≤ 2 * e.queue.length + e.readers.length + 1 := by
  unfold Dir.goOn
  split
  · exact goQ_msgs zOb
  · exact Nat.zero_le _
theorem mode_of {id : Int} {e : En} {h : Dir.Hd} (hi : Dir.Inv (Pz id) zOb e h) {n : Int} (hn : Dir.N4 n) : (e.owner = n → h.mode n = 2) ∧ (n ∈ e.readers → h.mode n = 1) := ⟨fun h => (hi.pre.m2 n hn).2 h, fun h => (hi.pre.m1 n hn).2 h⟩
theorem ask_step {id : Int} (h0 : id ≠ 0) {d : Drs} {e : En} {h : Dir.Hd} (hnd : okN d.node = true) (hd : DS id d.ents e) (hi : Dir.Inv (Pz id) zOb e h) {n m : Int} (hn : Dir.N4 n) (ha : h.asked n = 0) (hm : m = 1 ∨ m = 2) (hlt : h.mode n < m) :
    ∃ e' h' ms, askL d id n m = (d.node, [e'], ms.map (mgM d.node id), 0) ∧ Dir.takeA { h with asked := Dir.up h.asked n m } ms = some h' ∧ Dir.Inv (Pz id) zOb e' h' ∧ DS id [e'] e' ∧ ms.length ≤ 9000 := by
  obtain ⟨h', k1, k2⟩ := Dir.ask_inv (pz_zob id) hi hn ha hm hlt
  have hid := ds_id hd
  have hid' : (Dir.askE zOb e n m).2.id = id := by rw [Dir.askE, goOn_id]; exact hid
  have q4 := hi.q4
  have r4 := asc_len (asc_ofN4 hi.pre.rdr hi.pre.asc)
  refine ⟨_, h', _, ?_, k1, k2, .inr ⟨rfl, hid'⟩, ?_⟩
  · have e1 : okN n = true := by unfold Dir.N4 at hn; simp [okN]; omega
    have e2 : okM m = true := by simpa [okM] using hm
    have e3 : (id == 0) = false := by simpa using h0
    have e4 : (e.owner == n) = false := by
      simp only [beq_eq_false_iff_ne, ne_eq]
      intro h1
      have := (mode_of hi hn).1 h1
      omega
    have e5 : (m == 1 && decide (n ∈ e.readers)) = false := by
      simp only [Bool.and_eq_false_iff, beq_eq_false_iff_ne, decide_eq_false_iff_not]
      by_cases h1 : m = 1
      · right
        intro h2
        have := (mode_of hi hn).2 h2
        omega
      · exact .inl h1
    have e6 : (e.queue.any fun p => p.1 == n) = false := by
      rw [List.any_eq_false]
      intro p hp h1
      obtain ⟨_, d2, d3, _⟩ := hi.pre.q1 p hp
      have h1 : p.1 = n := by simpa using h1
      rw [h1] at d2
      omega
    unfold askL
    rw [if_neg (by simp [ds_valid h0 hnd hd hi]), if_neg (by simp [e1, e2, e3])]
    dsimp only
    rw [ds_fnd hd, if_neg (by simp [e4, e5, e6])]
    have hp := ds_put hd hid'
    rw [Dir.askE] at hp
    rw [hp]
    simp only [goM, Dir.askE, hid]
  · have := goOn_msgs { e with queue := e.queue ++ [(n, m)] }
    simp only [List.length_append, List.length_singleton] at this
    show (Dir.goOn zOb { e with queue := e.queue ++ [(n, m)] }).1.length ≤ 9000
    omega
theorem ret_step {id : Int} (h0 : id ≠ 0) {d : Drs} {e : En} {h : Dir.Hd} (hnd : okN d.node = true) (hd : DS id d.ents e) (hi : Dir.Inv (Pz id) zOb e h) {n : Int} (hn : Dir.N4 n) (hdm : h.demand n = true) {o : Ob} (ho : Pz id o) :
    ∃ e' h' ms, retL d id n o = (d.node, [e'], ms.map (mgM d.node id), 0) ∧ Dir.takeA { h with mode := Dir.up h.mode n 0, demand := Dir.up h.demand n false } ms = some h' ∧ Dir.Inv (Pz id) zOb e' h' ∧ DS id [e'] e' ∧ ms.length ≤ 9000 ∧
      ((Dir.oth e.waiting n ≠ [] ∧ e'.waiting = Dir.oth e.waiting n ∧ e'.queue = e.queue) ∨ e'.queue.length + 1 ≤ e.queue.length) := by
  obtain ⟨h', k1, k2, k3⟩ := Dir.ret_inv (pz_zob id) hi hn hdm ho
  have hid := ds_id hd
  have hid' : (Dir.retE zOb e n o).2.id = id := by rw [Dir.retE, goOn_id]; exact hid
  have q4 := hi.q4
  have r4 := asc_len (asc_ofN4 hi.pre.rdr hi.pre.asc)
  have hrd : Dir.retE zOb e n o = Dir.goOn zOb (retD e n o) := by
    unfold Dir.retE retD
    split <;> rfl
  refine ⟨_, h', _, ?_, k1, k2, .inr ⟨rfl, hid'⟩, ?_, k3⟩
  · have e1 : okN n = true := by unfold Dir.N4 at hn; simp [okN]; omega
    have e3 : (id == 0) = false := by simpa using h0
    have hw := (hi.dem n hn).1 hdm
    have e4 : (e.owner != n && !decide (n ∈ e.readers)) = false := by
      rcases (inv_wt hi).1 n hw with ⟨_, h | h⟩
      · simp [h]
      · simp [h]
    have e5 : (oid o == id || zO? o) = true := ho
    unfold retL
    rw [if_neg (by simp [ds_valid h0 hnd hd hi])]
    dsimp only
    rw [ds_fnd hd, if_neg (by simp only [e1, e3, e4]; decide), if_neg (by simp only [e5]; simp)]
    rw [hrd] at hid' ⊢
    rw [ds_put hd hid']
    have hi2 : (retD e n o).id = id := by
      unfold retD
      split <;> exact hid
    simp only [goM, hi2]
  · rw [hrd]
    have := goOn_msgs (retD e n o)
    have h1 : (retD e n o).queue = e.queue := by unfold retD; split <;> rfl
    have h2 : (retD e n o).readers.length ≤ e.readers.length := by
      unfold retD
      split
      · exact Nat.le_refl _
      · exact List.length_filter_le _ _
    rw [h1] at this
    omega
end Go.Abs.Na
